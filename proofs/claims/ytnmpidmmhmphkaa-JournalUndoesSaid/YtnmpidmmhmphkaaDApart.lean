/- A value whose list is copied: it answers what it got. -/
import Derived.Test.YtnmpidmmhmphkaaDRegA
import Derived.Test.YtnmpidmmhmphkaaDClr
set_option linter.unusedVariables false
set_option linter.unusedSimpArgs false
namespace Go.Proofs.D
open Go.RowKit

def apBody (f : Func) : Code := .seq (.region 0 (rops (bodyOf f) 0) false) (.seq (.region 1 (rops (bodyOf f) 1) false) (.seq (.region 2 (rops (bodyOf f) 2) false) (.seq (.region 3 (rops (bodyOf f) 3) false) (.seq (.region 4 (rops (bodyOf f) 4) false) .ret))))
def apO (kT e : K) (Z : T) (t : El kT) (l : List (El e)) : List (Nat × Obj) := [(1001, .cell kT false (.val kT t)), (1002, .cell kT false Z), (1007, .row e false l)]
def apE : List (Nat × T) := [(1, .ptr 1001 []), (2, .ptr 1002 []), (3, .row 1007)]

structure ApFacts (P : Program) (C : Ctx) (f : FuncId) (fn : Func) (kT e : K) (dn : El kT → List (El e)) (Z : T) (oB : El kT → T) (rt : Sk) (os : List ObSk) (mk : El kT → ResEl rt os) (ts te : TypeId) : Prop where
  hf : P.funcs[f]? = some fn
  hname : (fn.name == "runtime.NumGoroutine") = false
  hb : fn.body = some (apBody fn)
  hn : fn.ntmps = C.n
  h14 : 14 < C.n
  r2 : (rops (bodyOf fn) 2).toList = [rg fn 2 0, rg fn 2 1, rg fn 2 2, rg fn 2 3]
  g3 : (rg fn 2 3).guard = none
  o3 : (rg fn 2 3).op = .call { callee := .builtin .copy, args := #[.tmp 8, .tmp 10], argTypes := #[ts, ts] }
  d3 : (rg fn 2 3).dst = some 11
  hu : P.underlying ts = some (.slice te)
  ht : C.ty te = some e
  q0 : ∀ t : El kT, evalReg C false (rops (bodyOf fn) 0).toList (mkS [(0, .val kT t)] [] []) (fun sF => some (facts [1, 2] [1001, 1002] sF)) = some (told [(1, .ptr 1001 []), (2, .ptr 1002 [])] [(1001, .cell kT false (.val kT t)), (1002, .cell kT false Z)] [2, 1])
  q1 : ∀ t : El kT, evalReg C false (rops (bodyOf fn) 1).toList (mkS [(1, .ptr 1001 []), (2, .ptr 1002 [])] [(1001, .cell kT false (.val kT t)), (1002, .cell kT false Z)] [2, 1]) (fun sF => some (facts [1, 2, 3] [1001, 1002, 1007] sF)) =
    chk (decide ((0 : Int) ≤ ((dn t).length : Int)) && decide (((dn t).length : Int) ≤ ((dn t).length : Int)) && decide (((dn t).length : Int) ≤ 4294967296)) (some (told apE (apO kT e Z t (List.replicate (dn t).length (zeroE e))) [7, 2, 1]))
  q2 : ∀ (t : El kT) (l : List (El e)), evalOps C (rops (bodyOf fn) 2).toList [rg fn 2 0, rg fn 2 1, rg fn 2 2] (mkS apE (apO kT e Z t l) [7, 2, 1]) (fun sF => some (factR [1, 2, 3, 8, 10] [1001, 1002, 1007] sF)) = some (toldR [(1, .ptr 1001 []), (2, .ptr 1002 []), (3, .row 1007), (8, .row 1007), (10, .val (.slice e) (dn t))] (apO kT e Z t l) (fun _ => none) [7, 2, 1])
  q3 : ∀ t : El kT, evalReg C false (rops (bodyOf fn) 3).toList (mkS apE (apO kT e Z t (dn t)) [7, 2, 1]) (fun sF => some (facts [1, 2] [1001, 1002, 1007] sF)) = some (told [(1, .ptr 1001 []), (2, .ptr 1002 [])] [(1001, .cell kT false (oB t)), (1002, .cell kT false Z), (1007, .row e false (dn t))] [7, 2, 1])
  q4 : ∀ t : El kT, evalReg C false (rops (bodyOf fn) 4).toList (mkS [(1, .ptr 1001 []), (2, .ptr 1002 [])] [(1001, .cell kT false (oB t)), (1002, .cell kT false Z), (1007, .row e false (dn t))] [7, 2, 1]) (fun sF => some (facts [2] [1002, 1007] sF)) = some (told [(2, .ptr 1002 [])] [(1002, .cell kT false (oB t)), (1007, .row e false (dn t))] [7, 2, 1])
  e4 : ∀ t : El kT, nEnd C fn rt os (mkS [(2, .ptr 1002 [])] [(1002, .cell kT false (oB t)), (1007, .row e false (dn t))] [7, 2, 1]) = some (mk t)

def apF {kT e : K} {α : Type} (dn : El kT → List (El e)) (mk : El kT → α) (t : El kT) : Option α := bif Nat.ble (dn t).length 4294967296 then some (mk t) else none

section
variable {P : Program} {C : Ctx} {fn : Func} {f : FuncId} {kT e : K} {dn : El kT → List (El e)} {Z : T} {oB : El kT → T} {rt : Sk} {os : List ObSk} {mk : El kT → ResEl rt os} {ts te : TypeId}

theorem run_copyAll {w : World} {ts te ty : TypeId} {i : TypeInfo} (hu : P.underlying ts = some (.slice te)) (hi : P.info? te = some i) {x : Value} {n cap : Nat} {news : List Value} (hs : Src P i.size ts x n news w) {b o : Nat}
    (hc : ∀ j, j < news.length → (w.cell? ⟨b, o + j, none⟩).isSome = true ∧ w.frozen? ⟨b, o + j, none⟩ = false) :
    (Builtin.copy_ #[ts, ts] ty #[.slice (some ⟨b, o, none⟩) n cap, x]).run P w = .ok (goInt n) (w.setCells b o news) := by
  have hst := run_storeCells_cells (P := P) b o news 0 w (fun j hj => by rw [Nat.add_zero]; exact (hc j hj).1) (fun j hj => by rw [Nat.add_zero]; exact (hc j hj).2) hs.one
  simp [Builtin.copy_, run_underlying hu, sizeOf, typeInfo, hi, hs.len, hs.cells, hst, Sem.run_bind]

theorem apart_sound (hC : CtxOk P C) (hm : P.follows .mixedOrders = true) (F : ApFacts P C f fn kT e dn Z oB rt os mk ts te) :
    Sound P f { args := .tc (.val kT) .tn, objs := [], ret := rt, outs := os, F := fun x => apF dn mk x.1.1 } := by
  intro w S m x y vals hy hargs hrel hbig
  obtain ⟨⟨t, _⟩, u1⟩ := x
  obtain ⟨v1, r1, e1, a1, ha⟩ := hargs
  have ha : r1 = [] := ha
  subst ha; subst e1
  have hy : apF dn mk t = some y := hy
  unfold apF at hy
  obtain ⟨hle, hy⟩ := bif_some hy
  have hle := Nat.le_of_ble_eq_true hle
  have et : mk t = y := Option.some.inj hy
  subst et
  have hcall : (callFunc f [v1].toArray).run P w = .ok (.enter f [v1].toArray) w := by
    have g1 : fn.name ≠ "runtime.NumGoroutine" := by simpa using F.hname
    have g2 : fn.body ≠ none := fun e => by rw [F.hb] at e; cases e
    simp [callFunc, Sem.run_bind, F.hf, g1, g2]
  rw [hcall]
  show Calls P f #[v1] w _
  have hO : OwnSt (objs0 (fillOs ([] : List ObSk) u1)) m = fun _ _ => False := by
    funext b x
    exact propext ⟨(fun ⟨i, o, u, q, _⟩ => by cases q), fun q => q.elim⟩
  refine (callsIn_fr (lr := none) (n := 0)).1 (callsIn_of_wp F.hf F.hb trivial ?_ rfl)
  have h14 := F.h14
  obtain ⟨a0, ha0⟩ : ∃ a0 : Act, a0 = { tmps := #[v1] ++ Array.replicate (fn.ntmps - (#[v1] : Array Value).size) undef, defers := [] } := ⟨_, rfl⟩
  rw [← ha0]
  have hT0 : TmOk C a0 := by
    rw [ha0]
    refine ⟨?_, rfl⟩
    have := F.hn
    simp; omega
  have hs0 : a0.tmps.getD 0 undef = v1 := by rw [ha0]; simp [Array.getElem?_append]
  have h0 := At.bare (C := C) hrel.live hT0 (E := [(0, .val kT t)]) (fun p hp => by
    rw [List.mem_singleton] at hp; subst hp
    rw [hs0]
    rcases a1 with q | ⟨cs, q1, q2⟩
    · cases q
    · exact .inr ⟨cs, q1, q2⟩)
  rw [← withD_self hT0.2]
  refine wpIn_seq (At.regionI hC rfl h0 (F.q0 t) rfl rfl fun b1 w1 S1 m1 h1 c1 d1 x1 _ => ?_)
  show Code.wpIn _ _ _ _ _ _ _
  have q1 := F.q1 t
  rw [chk_true (by simp; omega)] at q1
  refine wpIn_seq (At.regionI (E' := apE) (O' := apO kT e Z t (List.replicate (dn t).length (zeroE e))) (d' := [7, 2, 1]) hC rfl h1 q1 rfl rfl fun b2 w2 S2 m2 h2 c2 d2 x2 _ => ?_)
  show Code.wpIn _ _ _ _ _ _ _
  -- the copy
  refine wpIn_seq (wpIn_region ?_)
  have r2 := F.r2
  have hat : ∀ j, (rops (bodyOf fn) 2)[j]? = [rg fn 2 0, rg fn 2 1, rg fn 2 2, rg fn 2 3][j]? := fun j => by rw [← Array.getElem?_toList, r2]
  rw [show (rops (bodyOf fn) 2).size = 4 by rw [← Array.length_toList, r2]; rfl]
  show wpOpsIn _ _ _ _ _ (List.range' 0 [rg fn 2 0, rg fn 2 1, rg fn 2 2].length ++ [3]) _ _
  refine At.opsS (E' := [(1, .ptr 1001 []), (2, .ptr 1002 []), (3, .row 1007), (8, .row 1007), (10, .val (.slice e) (dn t))]) (O' := apO kT e Z t (List.replicate (dn t).length (zeroE e))) (ρ' := fun _ => none) (d' := [7, 2, 1]) hC rfl (fun j y hy => ?_) h2 rfl rfl (fun i o q => by cases q) (F.q2 t _) fun b3 w3 S3 m3 h3 c3 d3 x3 _ => ?_
  · rw [Nat.zero_add, hat]
    match j, hy with
    | 0, hy => exact hy
    | 1, hy => exact hy
    | 2, hy => exact hy
    | j + 3, hy => simp at hy
  rw [mkR_mkS] at h3
  obtain ⟨u, hu, hob⟩ := h3.rel.sto 1007 (.row e false (List.replicate (dn t).length (zeroE e))) rfl
  have hob' := hob
  obtain ⟨A, cap, g0, g1, g2, g3, g4, g5, g6⟩ := hob
  rw [List.length_replicate] at g0 g1
  obtain ⟨u', hu', e8, _⟩ := repV_row (h3.slot 8 : RepV w3 S3 m3 (.row 1007) _)
  rw [hu] at hu'; cases hu'
  rw [g0] at e8
  have hv10 : RepV w3 S3 m3 (.val (.slice e) (dn t)) (b3.tmps.getD 10 undef) := h3.slot 10
  have hsz := (hC.ty _ _ F.ht).info
  obtain ⟨news, hrep, hsrc⟩ := src_ok (P := P) (t := .val (.slice e) (dn t)) (x := dn t) (u := []) h3.rel.toStoRel F.hu rfl hv10 (by show (castE (.slice e) (.slice e) (dn t)).map (fun y => (y, ([] : Ups))) = _; rw [castE_self]; rfl)
  obtain ⟨inf, hinf, hisz, _⟩ := hsz
  rw [← hisz] at hsrc
  -- the world behind it
  obtain ⟨W, hW, hrun, hstep⟩ : ∃ W, True ∧ (Builtin.copy_ #[ts, ts] (rg fn 2 3).type #[b3.tmps.getD 8 undef, b3.tmps.getD 10 undef]).run P w3 = .ok (goInt (dn t).length) W ∧
      Step1 (mkS [(1, .ptr 1001 []), (2, .ptr 1002 []), (3, .row 1007), (8, .row 1007), (10, .val (.slice e) (dn t))] (apO kT e Z t (List.replicate (dn t).length (zeroE e))) [7, 2, 1]).sto w3 S3 m3 (fun i => bif Nat.beq i 1007 then some (.row e false (dn t)) else (mkS [(1, .ptr 1001 []), (2, .ptr 1002 []), (3, .row 1007), (8, .row 1007), (10, .val (.slice e) (dn t))] (apO kT e Z t (List.replicate (dn t).length (zeroE e))) [7, 2, 1]).sto i) W S3 m3 := by
    cases A with
    | none =>
      have hc0 := g3 rfl
      have hl0 : (dn t).length = 0 := by omega
      have hd0 : dn t = [] := List.eq_nil_of_length_eq_zero hl0
      refine ⟨w3, trivial, ?_, ?_⟩
      · have hn0 : news = [] := List.eq_nil_of_length_eq_zero (by rw [hsrc.newsLen, hl0, Nat.zero_mul])
        subst hn0
        rw [e8]
        have hsrc := hsrc
        generalize b3.tmps.getD 10 undef = x10 at hsrc ⊢
        simp [Builtin.copy_, run_underlying F.hu, sizeOf, typeInfo, hinf, hsrc.len, hsrc.cells, Sem.run_bind]
      · have hsame : (fun i => bif Nat.beq i 1007 then some (Obj.row e false (dn t)) else (mkS [(1, .ptr 1001 []), (2, .ptr 1002 []), (3, .row 1007), (8, .row 1007), (10, .val (.slice e) (dn t))] (apO kT e Z t (List.replicate (dn t).length (zeroE e))) [7, 2, 1]).sto i) = (mkS [(1, .ptr 1001 []), (2, .ptr 1002 []), (3, .row 1007), (8, .row 1007), (10, .val (.slice e) (dn t))] (apO kT e Z t (List.replicate (dn t).length (zeroE e))) [7, 2, 1]).sto := by
          funext i
          by_cases hi : i = 1007
          · subst hi
            rw [hl0, hd0]; rfl
          · have : Nat.beq i 1007 = false := by cases hq : Nat.beq i 1007 with
              | false => rfl
              | true => exact absurd (Nat.eq_of_beq_eq_true hq) hi
            rw [this]; rfl
        rw [hsame]
        exact StoRel.less h3.rel.toStoRel fun l o q => q
    | some ad =>
      by_cases hl0 : cap = 0
      · have hlz : (dn t).length = 0 := by omega
        have hd0 : dn t = [] := List.eq_nil_of_length_eq_zero hlz
        have hn0 : news = [] := List.eq_nil_of_length_eq_zero (by rw [hsrc.newsLen, hlz, Nat.zero_mul])
        subst hn0
        refine ⟨w3, trivial, ?_, ?_⟩
        · rw [e8]
          have hsrc := hsrc
          generalize b3.tmps.getD 10 undef = x10 at hsrc ⊢
          simp [Builtin.copy_, run_underlying F.hu, sizeOf, typeInfo, hinf, hsrc.len, hsrc.cells, Sem.run_bind, storeCells]
        · have hsame : (fun i => bif Nat.beq i 1007 then some (Obj.row e false (dn t)) else (mkS [(1, .ptr 1001 []), (2, .ptr 1002 []), (3, .row 1007), (8, .row 1007), (10, .val (.slice e) (dn t))] (apO kT e Z t (List.replicate (dn t).length (zeroE e))) [7, 2, 1]).sto i) = (mkS [(1, .ptr 1001 []), (2, .ptr 1002 []), (3, .row 1007), (8, .row 1007), (10, .val (.slice e) (dn t))] (apO kT e Z t (List.replicate (dn t).length (zeroE e))) [7, 2, 1]).sto := by
            funext i
            by_cases hi : i = 1007
            · subst hi
              rw [hlz, hd0]; rfl
            · have : Nat.beq i 1007 = false := by cases hq : Nat.beq i 1007 with
                | false => rfl
                | true => exact absurd (Nat.eq_of_beq_eq_true hq) hi
              rw [this]; rfl
          rw [hsame]
          exact StoRel.less h3.rel.toStoRel fun l o q => q
      · have had := g4 ad rfl (by omega)
        subst had
        have hnl : news.length = (dn t).length * e.size := by rw [hsrc.newsLen, hisz]
        have hmul : (dn t).length * e.size ≤ cap * e.size := Nat.mul_le_mul_right _ g1
        have hown : ∀ y, u.o ≤ y → y < u.o + cap * e.size → (w3.cell? ⟨u.b, y, none⟩).isSome = true ∧ w3.frozen? ⟨u.b, y, none⟩ = false := fun y q1 q2 => g6 y ⟨(List.replicate (dn t).length (zeroE e)).length, cap, ⟨u.b, u.o, none⟩, by rw [List.length_replicate]; exact g0, rfl, q1, q2, fun q => by cases q⟩
        have hth : w3.there u.b u.o news.length := fun j hj => hown (u.o + j) (by omega) (by omega)
        refine ⟨w3.setCells u.b u.o news, trivial, ?_, ?_⟩
        · rw [e8]
          exact run_copyAll F.hu hinf hsrc (fun j hj => hown (u.o + j) (by omega) (by omega))
        · refine h3.rel.toStoRel.turnRow (id := 1007) rfl hu (by rw [List.length_replicate]; exact g0) ((Touch.setCells w3 u.b u.o news).mono fun b y ⟨q1, q2, q3⟩ => ⟨q1, q2, by omega⟩) (by rw [List.length_replicate]) (fun i z hz => ?_) (fun y q1 q2 => ?_)
          · obtain ⟨q1, q2⟩ := RepL.get (n := e.size) (fun _ _ h => Rep.length h) hrep hz
            have hr := rangeAt_sub (World.rangeAt_setCells_same w3 u.b u.o news hth) (i * e.size) e.size
            exact ⟨_, Rep.length q1, hr, q1⟩
          · obtain ⟨p1, p2⟩ := hown y q1 q2
            exact ⟨World.isSome_setCells _ _ _ _ _ p1, by rw [World.frozen?_setCells]; exact p2⟩
  refine opsIn_cons (hat 3) F.g3 (oper_in (fun c q => by rw [F.o3] at q; cases q) h3.tm.2 ?_)
  have hex : (execOp b3.eval (rg fn 2 3)).run P w3 = .ok (.value (goInt (dn t).length)) W := by
    have q8 : b3.eval (.tmp 8) = b3.tmps.getD 8 undef := rfl
    have q10 : b3.eval (.tmp 10) = b3.tmps.getD 10 undef := rfl
    simp [execOp, F.o3, resolve, Sem.run_bind, invoke, builtin, q8, q10] at hrun ⊢
    simp [hrun]
  unfold Oper.wp
  rw [hex, Oper.upon_value]
  have h4 : At C 0 (fun _ _ => False) w S (fun _ => none) (mkS apE (apO kT e Z t (dn t)) [7, 2, 1]) (b3.put (some 11) (goInt (dn t).length)) W S3 m3 := by
    obtain ⟨k4, k5, k6⟩ := hstep
    have hsto : (fun i => bif Nat.beq i 1007 then some (Obj.row e false (dn t)) else (mkS [(1, .ptr 1001 []), (2, .ptr 1002 []), (3, .row 1007), (8, .row 1007), (10, .val (.slice e) (dn t))] (apO kT e Z t (List.replicate (dn t).length (zeroE e))) [7, 2, 1]).sto i) = (mkS apE (apO kT e Z t (dn t)) [7, 2, 1]).sto := by
      funext i
      by_cases hi : i = 1007
      · subst hi; rfl
      · have : Nat.beq i 1007 = false := by cases hq : Nat.beq i 1007 with
          | false => rfl
          | true => exact absurd (Nat.eq_of_beq_eq_true hq) hi
        rw [this]
        by_cases h1 : i = 1001
        · subst h1; rfl
        · by_cases h2 : i = 1002
          · subst h2; rfl
          · have n1 : Nat.beq i 1001 = false := by cases hq : Nat.beq i 1001 with
              | false => rfl
              | true => exact absurd (Nat.eq_of_beq_eq_true hq) h1
            have n2 : Nat.beq i 1002 = false := by cases hq : Nat.beq i 1002 with
              | false => rfl
              | true => exact absurd (Nat.eq_of_beq_eq_true hq) h2
            show stoL _ i = stoL _ i
            simp only [apO, stoL, this, n1, n2, cond_false]
    rw [hsto] at k4 k6
    refine h3.step (s' := mkS apE (apO kT e Z t (dn t)) [7, 2, 1]) ⟨k4, fun x => ?_, h3.rel.fresh, h3.rel.top⟩ (h3.tm.put _ _) k6
    by_cases e11 : x = 11
    · subst e11; exact .inl rfl
    · rw [put_other (by simpa using Ne.symm e11)]
      rcases (envL_or (E := apE) (f := (mkS [(1, .ptr 1001 []), (2, .ptr 1002 []), (3, .row 1007), (8, .row 1007), (10, .val (.slice e) (dn t))] (apO kT e Z t (List.replicate (dn t).length (zeroE e))) [7, 2, 1]).env) (fun p hp => by
        simp only [apE, List.mem_cons, List.not_mem_nil, or_false] at hp
        rcases hp with rfl | rfl | rfl <;> rfl) x) with q | q
      · exact .inl (by show (envL apE x).isAny = true; exact q)
      · show RepV W S3 m3 (envL apE x) _
        rw [q]
        exact (h3.rel.env x).keep k5 fun _ _ q => q
  rw [F.d3]
  refine ⟨(h3.tm.put (some 11) (goInt (dn t).length)).2, ?_⟩
  show Code.wpIn _ _ _ _ _ _ _
  refine wpIn_seq (At.regionI hC rfl h4 (F.q3 t) rfl rfl fun b5 w5 S5 m5 h5 c5 d5 x5 _ => ?_)
  show Code.wpIn _ _ _ _ _ _ _
  refine wpIn_seq (At.regionI hC rfl h5 (F.q4 t) rfl rfl fun b6 w6 S6 m6 h6 c6 d6 x6 _ => ?_)
  show Code.wpIn _ _ _ _ _ _ _
  refine wpIn_ret ?_
  rw [hO]
  obtain ⟨q1, v, q2, v', q3, S7, m7, q4, q5, q6, q7⟩ := end_ok (objs := []) (outs := os) (ret := rt) (fn := fn) (y := mk t) hC rfl h6 (F.e4 t)
  cases q3
  exact ⟨rfl, v, q2, v, rfl, S7, m7, q4, q5, fun i u hi => absurd hi (Nat.not_lt_zero _), q7⟩
end
end Go.Proofs.D
