/- slices.AppendSeq from nil, of whatever iterator: a row of its own, with what came. -/
import Derived.Test.YtnmpidmmhmphkaaDKeyIt
set_option linter.unusedVariables false
set_option linter.unusedSimpArgs false
namespace Go.Proofs.D
open Go.RowKit

def asE : List (Nat × T) := [(2, .ptr 0 [])]
def asO (kk : K) (ks : List (El kk)) : List (Nat × Obj) := [(0, .cell (.slice kk) false (.row 1)), (1, .row kk false ks)]
def asEr (kk : K) (x : El kk) : List (Nat × T) := [(2, .ptr 0 []), (7, .val kk x)]
def asE2 (kk : K) (one : Bool) (x : El kk) : List (Nat × T) := bif one then [(2, .ptr 0 []), (5, .val kk x)] else [(2, .ptr 0 []), (5, .ptr 1005 [])]
def asd2 (one : Bool) : List Nat := bif one then [] else [5]
def ask2 (one : Bool) : List Nat := bif one then [0, 1] else [0, 1, 1005]
def asO2 (kk : K) (one : Bool) (ks : List (El kk)) (x : El kk) : List (Nat × Obj) := bif one then asO kk ks else [(0, .cell (.slice kk) false (.row 1)), (1, .row kk false ks), (1005, .cell kk false (.val kk x))]
def asO3 (kk : K) (ks : List (El kk)) : List (Nat × Obj) := [(0, .cell (.slice kk) false (.row 1011)), (1011, .row kk false ks)]
def asBody (f : Func) : Code := .seq (.region 0 (rops (bodyOf f) 0) false) (.seq (.seq (.region 1 (rops (bodyOf f) 1) false) (.block 0 (.rangeFunc (.tmp 6) #[7] (.region 2 (rops (bodyOf f) 2) false) (.block 1 (.region 3 (rops (bodyOf f) 3) false))))) (.seq (.region 4 (rops (bodyOf f) 4) false) .ret))

structure AsFacts (P : Program) (C : Ctx) (f : FuncId) (fn : Func) (kk : K) (one : Bool := false) : Prop where
  hf : P.funcs[f]? = some fn
  hb : fn.body = some (asBody fn)
  hres : fn.results.toList = [.tmp 4]
  hn : fn.ntmps = C.n
  h12 : 12 < C.n
  r1 : (rops (bodyOf fn) 1).toList = [rg fn 1 0]
  o1 : (rg fn 1 0).op = .move (.tmp 1)
  o1d : (rg fn 1 0).dst = some 6
  o1g : (rg fn 1 0).guard = none
  k0 : keepsT (rops (bodyOf fn) 0).toList 1 = true
  q0 : evalReg C false (rops (bodyOf fn) 0).toList (mkS [(0, .nils kk)] [] []) (fun sF => some (factR [2] [1002] sF)) = some (toldR [(2, .ptr 1002 [])] [(1002, .cell (.slice kk) false (.nils kk))] (fun _ => none) [2])
  q2 : ∀ (ks : List (El kk)) (x : El kk), evalReg C false (rops (bodyOf fn) 2).toList (mkS (asEr kk x) (asO kk ks) []) (fun sF => some (facts [2, 5] (ask2 one) sF)) = some (told (asE2 kk one x) (asO2 kk one ks x) (asd2 one))
  q3 : ∀ (ks : List (El kk)) (x : El kk), evalReg C false (rops (bodyOf fn) 3).toList (mkS (asE2 kk one x) (asO2 kk one ks x) (asd2 one)) (fun sF => some (facts [2] [0, 1011] sF)) = room (ks.length + 1) (some (told asE (asO3 kk (ks ++ [x])) (11 :: 10 :: asd2 one)))
  q4 : ∀ (ks : List (El kk)), evalReg C false (rops (bodyOf fn) 4).toList (mkS asE (asO kk ks) []) (fun sF => some (facts [4] [1] sF)) = some (told [(4, .row 1)] [(1, .row kk false ks)] [])

section
variable {P : Program} {C : Ctx} {kk : K} {a a' : Act} {w w' : World} {S S' : Cells} {m m' : Nat → Option MB}

/-- What an iterator's value promises. -/
def KGives (P : Program) (gf : FuncId) (bx : Value) (kk : K) (ok : List (El kk) → Prop) (N : Nat) (w : World) : Prop :=
  ∀ (l : Nat) (J : List (El kk) → World → Cells → Prop) (W : World) (S0 : Cells), Gr w W none →
    (∀ ks W S, J ks W S → ∀ b x, S b x → b < W.heap.size) →
    (∀ ks W1 W' S row, J ks W1 S → Gr W1 W' row → (∀ r, row = some r → W.heap.size ≤ r ∧ ∃ o, W1.heap[r]? = some o ∧ o.isWalk = true) → J ks W' S) →
    (∀ ks y W S v, J ks W S → ks.length < N → (∀ W' S' m', RepV W' S' m' (.val kk y) v) → YieldAt (Fr none) 0 P l #[v] W fun en W' => en = .returned (.bool true) ∧ KeepsWalks W W' ∧ ∃ S', J (ks ++ [y]) W' S') →
    J [] W S0 → CallsIn (Fr none) 0 P gf #[.func (.yield l) #[] #[], bx] W fun en W' => (∃ v, en = .returned v) ∧ ∃ ks S', ok ks ∧ J ks W' S'

theorem At.regionW {C1 : Ctx} {O0 : Cells} {w0 : World} {S0 : Cells} {m0 : Nat → Option MB} {lr : Option Nat} {n : Nat} (hC : CtxOk P C1) (hn : C1.n = C.n) {L : List Deferred} {Q : Exit → Act → World → Prop} {id : Nat} {ops : Array Oper} {E E' : List (Nat × T)} {O O' : List (Nat × Obj)} {d d' ke ko : List Nat}
    (h : At C 0 O0 w0 S0 m0 (mkS E O d) a w S m) (hm : noMaps O = true) (he : evalReg C1 false ops.toList (mkS E O d) (fun sF => some (facts ke ko sF)) = some (Go.Proofs.D.told E' O' d')) (hke : E'.map (·.1) = ke) (hko : O'.map (·.1) = ko)
    (hQ : ∀ a' w' S' m', At C 0 O0 w0 S0 m0 (mkS E' O' d') a' w' S' m' → Keeps w S w' S' → (∀ i u, m i = some u → m' i = some u) → (∀ (b : Nat) (o : Go.Obj), w.heap[b]? = some o → o.isCells = false → w'.heap[b]? = some o) → KeepsWalks w w' → Q .normal (withD L a') w') :
    (Code.region id ops false).wpIn (Fr lr) n P Q (withD L a) w :=
  At.regionIn hC hn h hke hko he fun a' w' S' m' h1 h2 h3 h4 _ =>
    have hk : ∀ (b : Nat) (o : Go.Obj), w.heap[b]? = some o → o.isCells = false → w'.heap[b]? = some o := fun b o hb hc => (h4.block b (Array.getElem?_eq_some_iff.1 hb).1 (h.notOwn (noMaps_at hm) hb hc)).trans hb
    hQ a' w' S' m' h1 h2 h3 hk ⟨h4.size, fun k o hk' ho => hk k o hk' (by cases o <;> first | rfl | cases ho)⟩

theorem appseq {one : Bool} {f gf : FuncId} {fn fg : Func} {bx : Value} {ok : List (El kk) → Prop} {N : Nat} (hC : CtxOk P C) (A : AsFacts P C f fn kk one) (hfl : kk.flat = true) (hl : ∀ b x, S b x → b < w.heap.size) (hgf : P.funcs[gf]? = some fg) (hgn : (fg.name == "runtime.NumGoroutine") = false) (hgb : fg.body.isSome = true) (hN : N ≤ 4294967296)
    (hG : KGives P gf bx kk ok N w) : Calls P f #[.slice none 0 0, .func (.func gf) #[] #[bx]] w fun en w' => ∃ v ks S' m', en = .returned v ∧ ok ks ∧ RepV w' S' m' (.row 1) v ∧
      StoRel (mkS [] [(1, .row kk false ks)] []).sto w' S' m' ∧ Ext (fun _ _ => False) w S (fun _ => none) w' S' (fun _ => none) (OwnSt (mkS [] [(1, .row kk false ks)] []).sto m') := by
  refine (callsIn_fr (lr := none) (n := 0)).1 (callsIn_of_wp_marks A.hf A.hb trivial ?_ rfl)
  have h12 := A.h12
  obtain ⟨a0, ha0⟩ : ∃ a0 : Act, a0 = { tmps := #[Value.slice none 0 0, .func (.func gf) #[] #[bx]] ++ Array.replicate (fn.ntmps - (#[Value.slice none 0 0, .func (.func gf) #[] #[bx]] : Array Value).size) undef, defers := [] } := ⟨_, rfl⟩
  rw [← ha0]
  have hT0 : TmOk C a0 := by
    rw [ha0]
    refine ⟨?_, rfl⟩
    have := A.hn
    simp; omega
  have hs0 : a0.tmps.getD 0 undef = .slice none 0 0 := by rw [ha0]; simp [Array.getElem?_append]
  have hs1 : a0.tmps.getD 1 undef = .func (.func gf) #[] #[bx] := by rw [ha0]; simp [Array.getElem?_append]
  have hA := At.bare hl hT0 (E := [(0, .nils kk)]) (fun p hp => by rw [List.mem_singleton] at hp; subst hp; rw [hs0]; exact .inr ⟨[_], rfl, by show Shut false _ _; simp [Shut]⟩)
  rw [← withD_self hT0.2]
  refine wpIn_seq (wpIn_region ?_)
  have hr0 : List.range (rops (bodyOf fn) 0).size = List.range' 0 (rops (bodyOf fn) 0).toList.length ++ [] := by rw [Array.length_toList, List.append_nil, List.range_eq_range']
  rw [hr0]
  refine At.opsS (E' := [(2, .ptr 1002 [])]) (O' := [(1002, .cell (.slice kk) false (.nils kk))]) (ρ' := fun _ => none) (d' := [2]) hC rfl (fun j y hy => by rw [Nat.zero_add, ← Array.getElem?_toList]; exact hy) hA rfl rfl (fun i o q => by cases q) A.q0 fun a1 w1 S1 m1 h1 _ _ _ s1 => ?_
  have t1 : a1.tmps.getD 1 undef = .func (.func gf) #[] #[bx] := (s1 1 A.k0).trans hs1
  show Code.wpIn _ _ _ _ _ _ _
  refine wpIn_seq (wpIn_seq (wpIn_region ?_))
  have hat : (rops (bodyOf fn) 1)[0]? = some (rg fn 1 0) := by rw [← Array.getElem?_toList, A.r1]; rfl
  rw [show (rops (bodyOf fn) 1).size = 1 by rw [← Array.length_toList, A.r1]; rfl]
  show wpOpsIn _ _ _ _ _ [0] _ _
  refine opsIn_cons hat A.o1g ⟨fun _ _ => trivial, ?_⟩
  rw [Oper.semAt_eq _ _ _ (fun c q => by rw [A.o1] at q; cases q)]
  have he1 : (withD [] a1).eval = a1.eval := by funext x; cases x <;> rfl
  have p1 : a1.eval (.tmp 1) = .func (.func gf) #[] #[bx] := t1
  have r1 : (execOp (withD [] a1).eval (rg fn 1 0)).run P w1 = .ok (.value (.func (.func gf) #[] #[bx])) w1 := by rw [he1]; simp [execOp, A.o1, p1]
  rw [r1, Oper.uponIn_value, A.o1d, withD_put]
  obtain ⟨a4, ha4⟩ : ∃ a4, a4 = a1.put (some 6) (.func (.func gf) #[] #[bx]) := ⟨_, rfl⟩
  rw [← ha4]
  have T4 : TmOk C a4 := by rw [ha4]; exact h1.tm.put _ _
  have t6 : a4.tmps.getD 6 undef = .func (.func gf) #[] #[bx] := by
    have : 6 < a1.tmps.size := by rw [h1.tm.1]; omega
    rw [ha4]; simp [Act.put, this]
  have t2 : a4.tmps.getD 2 undef = a1.tmps.getD 2 undef := by rw [ha4]; exact put_other (by decide)
  show Code.wpIn _ _ _ _ _ _ _
  -- the variable holds a row that is nil
  have h6 : ∃ m4, At C 0 (fun _ _ => False) w S (fun _ => none) (mkS asE (asO kk []) []) a4 w1 S1 m4 := by
    have n1 : m1 99001 = none := (h1.rel.fresh 98001 (by omega) rfl).1
    have n2 : m1 99002 = none := (h1.rel.fresh 98002 (by omega) rfl).1
    have s0 : (mkR [(2, .ptr 1002 [])] [(1002, .cell (.slice kk) false (.nils kk))] (fun _ => none) [2]).sto 1002 = some (.cell (.slice kk) false (.nils kk)) := rfl
    obtain ⟨u, hu, ho⟩ := h1.rel.sto 1002 _ s0
    have st := StoRel.newNil h1.rel.toStoRel (id := 99001) n1 kk false
    have n2' : putM1 m1 99001 ⟨.slice none 0 0, 0, 0, .arr 0 kk⟩ 99002 = none := by unfold putM1; rw [if_neg (by omega)]; exact n2
    have st2 := StoRel.recell st.rel (id := 1002) (i1 := 99002) (c := .slice kk) (c' := .slice kk) (t := .nils kk) (t' := .row 99001) (by rw [upd_ne (by omega)]; exact s0) (putM1_old n1 _ _ hu) n2' rfl rfl (fun cs _ hr => by
      have hr : cs = [.slice none 0 0] := hr
      exact ⟨⟨.slice none 0 0, 0, 0, .arr 0 kk⟩, putM1_new, hr, none, 0, 0, rfl⟩)
    refine ⟨fun i => match i with | 0 => putM1 (putM1 m1 99001 ⟨.slice none 0 0, 0, 0, .arr 0 kk⟩) 99002 { u with code := .slice kk } 99002 | 1 => putM1 (putM1 m1 99001 ⟨.slice none 0 0, 0, 0, .arr 0 kk⟩) 99002 { u with code := .slice kk } 99001 | _ => none, ?_⟩
    have g := h1.ghost (st.trans st2) (E' := [(2, .ptr 99002 [])]) (O' := [(99002, .cell (.slice kk) false (.row 99001)), (99001, .row kk false [])]) (d' := [98002, 98001, 2])
      (fun p hp => by
        simp only [List.mem_cons, List.not_mem_nil, or_false] at hp
        rcases hp with e | e <;> subst e <;> rfl)
      (fun p hp => by
        rw [List.mem_singleton] at hp; subst hp
        obtain ⟨u', r1, r2⟩ := repV_ptr (i := 1002) (p := []) (h1.rel.env 2)
        rw [hu] at r1; cases r1
        show RepV w1 S1 _ (.ptr 99002 []) _
        rw [r2, offK_nil]
        have := repV_mkPtr (w := w1) (S := S1) (i := 99002) (p := []) (m := putM1 (putM1 m1 99001 ⟨.slice none 0 0, 0, 0, .arr 0 kk⟩) 99002 { u with code := .slice kk }) (u := { u with code := .slice kk }) putM1_new
        rw [offK_nil] at this
        exact this)
      (fun x hx => by
        simp only [elemN, Bool.or_eq_false_iff] at hx
        show elemN x [2] = false
        simp only [elemN, Bool.or_eq_false_iff]
        exact hx.2.2)
      (fun j => by
        by_cases e1 : j = 99002
        · exact .inr ⟨98002, e1, by omega, rfl⟩
        by_cases e2 : j = 99001
        · exact .inr ⟨98001, e2, by omega, rfl⟩
        refine .inl ?_
        unfold putM1
        rw [if_neg e1, if_neg e2])
    refine g.renum (fun i => match i with | 0 => 99002 | 1 => 99001 | k => k) (ks := [0, 1]) rfl (by decide) (fun p hp => ?_) T4 (fun p hp => ?_) (fun i hi => ?_)
    · simp only [asO, List.mem_cons, List.not_mem_nil, or_false] at hp
      rcases hp with e | e <;> subst e
      · exact ⟨.cell (.slice kk) false (.row 99001), rfl, rfl, fun u h => h, fun u b x h => h⟩
      · exact ⟨.row kk false [], rfl, rfl, fun u h => h, fun u b x h => h⟩
    · simp only [asE, List.mem_cons, List.not_mem_nil, or_false] at hp
      subst hp
      show RepV _ _ _ (.ptr 0 []) (a4.tmps.getD 2 undef)
      rw [t2]; exact g.slot 2
    · obtain ⟨j, rfl⟩ : ∃ j, i = j + 2 := ⟨i - 2, by omega⟩
      rfl
  obtain ⟨m4, h6⟩ := h6
  clear h1 hA
  refine wpIn_block (wpIn_rangeFunc fun fn' _ => ?_)
  obtain ⟨rec, hrec⟩ : ∃ rec : LoopState → Option Code → Loop, rec = fun st pe => { state := st, pending := pe, fn := fn', tmps := a4.tmps, params := #[7], assign := .region 2 (rops (bodyOf fn) 2) false, body := .block 1 (.region 3 (rops (bodyOf fn) 3) false), defers := w1.heap.size } := ⟨_, rfl⟩
  obtain ⟨W1, hW1⟩ : ∃ W1, (w1.alloc (.deferred (some []))).alloc (.loop (rec .ready none)) = W1 := ⟨_, rfl⟩
  have hL1 : W1.heap[w1.heap.size + 1]? = some (.loop (rec .ready none)) := by
    rw [← hW1]; have := World.alloc_heap_new (w1.alloc (.deferred (some []))) (.loop (rec .ready none)); rwa [World.size_alloc] at this
  have hK1 : W1.heap[w1.heap.size]? = some (.deferred (some [])) := by
    rw [← hW1]; exact (Below.heap_alloc _ _ _ (by simp)).trans (World.alloc_heap_new w1 _)
  have hg1 : Gr w1 W1 none := by
    rw [← hW1]
    exact (Gr.alloc w1 _).trans (Gr.alloc _ _) fun j e => by cases e
  have hg0 : Gr w w1 none := by
    refine ⟨⟨h6.ext.os, h6.ext.tape.1, h6.ext.output, h6.ext.size, fun k hk _ => h6.ext.block k hk fun _ q => q⟩, h6.ext.tape.2⟩
  have hwD : w.heap.size ≤ w1.heap.size := hg0.size
  refine ⟨w1.heap.size + 1, [{ target := .collected w1.heap.size, args := #[] }], W1, { target := .fn (.func gf) #[bx], args := #[.func (.yield (w1.heap.size + 1)) #[] #[]] }, W1, gf, #[.func (.yield (w1.heap.size + 1)) #[] #[], bx], W1, ?_, ?_, fun _ _ => trivial, ?_, (fun q => by cases q), ?_⟩
  · rw [← hW1, hrec]; exact run_enterLoop_outer _ _ _ _ _
  · have e6 : (withD [] a4).tmps[6]?.getD undef = .func (.func gf) #[] #[bx] := by have := t6; simpa [withD, Array.getD_eq_getD_getElem?] using this
    simp [resolve, e6, Deferred.ofValue, Act.eval]
  · have g1 : fg.name ≠ "runtime.NumGoroutine" := by simpa using hgn
    have g2 : fg.body ≠ none := fun e => by rw [e] at hgb; cases hgb
    simp [invoke, callFunc, Sem.run_bind, hgf, g1, g2]
  refine (hG (w1.heap.size + 1) (fun ks W S' => ∃ m', At C 0 (fun _ _ => False) w S (fun _ => none) (mkS asE (asO kk ks) []) a4 W S' m' ∧ W.heap[w1.heap.size + 1]? = some (.loop (rec .ready none)) ∧ W.heap[w1.heap.size]? = some (.deferred (some [])))
    W1 S1 (hg0.trans hg1 fun j e => by cases e) ?_ ?_ ?_ ?_).mono ?_
  · rintro ks W S' ⟨m', q1, q2, q3⟩
    exact q1.rel.live
  · rintro ks W W' S' row ⟨m', q1, q2, q3⟩ hg hr
    have keep : ∀ (b : Nat) (o : Go.Obj), W.heap[b]? = some o → o.isWalk = false → W'.heap[b]? = some o := fun b o ho hw => (hg.block b (Array.getElem?_eq_some_iff.1 ho).1 fun e => by
      obtain ⟨-, o', ho', hw'⟩ := hr b e.symm
      rw [ho] at ho'; cases ho'
      rw [hw] at hw'; cases hw').trans ho
    refine ⟨m', q1.grown (noMaps_at rfl) hg (fun r e => ?_), keep _ _ q2 rfl, keep _ _ q3 rfl⟩
    obtain ⟨g1, o, g2, g3⟩ := hr r e
    exact ⟨by have := hg1.size; omega, o, g2, by cases o <;> simp_all [Go.Obj.isWalk, Go.Obj.isCells]⟩
  · -- one round
    rintro ks x W S5 v2 ⟨m5, h5, hL, hD⟩ hlt hv2
    have hy1 := run_yield (P := P) (args := #[v2]) hL (by rw [hrec]; rfl)
    obtain ⟨ar, har⟩ : ∃ ar : Act, ar = { tmps := a4.tmps.setIfInBounds 7 v2, defers := [] } := ⟨_, rfl⟩
    have htm : (((rec .ready none).params.zip #[v2]).foldl (fun tmps (x : Tmp × Value) => tmps.setIfInBounds x.1 x.2) (rec .ready none).tmps) = ar.tmps := by
      have ez : (#[7] : Array Tmp).zip #[v2] = #[(7, v2)] := by
        apply Array.ext'
        simp [Array.toList_zip]
      rw [hrec, har]
      show Array.foldl _ a4.tmps ((#[7] : Array Tmp).zip #[v2]) = _
      rw [ez]
      simp
    refine ⟨_, _, _, _, hy1, ?_⟩
    have hrd : ({ tmps := ((rec .ready none).params.zip #[v2]).foldl (fun tmps (x : Tmp × Value) => tmps.setIfInBounds x.1 x.2) (rec .ready none).tmps, defers := [] } : Act) = withD [] ar := by rw [htm]; rfl
    refine roundIn_of_wpIn trivial ?_
    have hrd' : ∀ (c : Code) (Q : Exit → Act → World → Prop), c.wpIn ((Fr none).inRound (w1.heap.size + 1)) 0 P Q (withD [] ar) W → c.wpIn ((Fr none).inRound (w1.heap.size + 1)) 0 P Q { tmps := ((rec .ready none).params.zip #[v2]).foldl (fun tmps (x : Tmp × Value) => tmps.setIfInBounds x.1 x.2) (rec .ready none).tmps, defers := [] } W := fun c Q q => by rw [hrd]; exact q
    refine hrd' _ _ ?_
    have hasg : (rec .ready none).assign = .region 2 (rops (bodyOf fn) 2) false := by rw [hrec]
    have hbdy : (rec .ready none).body = .block 1 (.region 3 (rops (bodyOf fn) 3) false) := by rw [hrec]
    have hst : ∀ st pe, (rec st pe).state = st := fun st pe => by rw [hrec]
    have hwith : ∀ st pe st', { rec st pe with state := st' } = rec st' pe := fun st pe st' => by rw [hrec]
    have hwith2 : ∀ st pe st' pe', { rec st pe with state := st', pending := pe' } = rec st' pe' := fun st pe st' pe' => by rw [hrec]
    rw [hasg, hbdy]
    have hTr : TmOk C ar := by rw [har]; exact ⟨by simp [h5.tm.1], rfl⟩
    have or2 : ∀ t, t ≠ 7 → ar.tmps.getD t undef = a4.tmps.getD t undef := fun t h7 => by
      rw [har]
      simp only [Array.getD_eq_getD_getElem?]
      rw [Array.getElem?_setIfInBounds_ne (Ne.symm h7)]
    have or7 : ar.tmps.getD 7 undef = v2 := by
      have : 7 < a4.tmps.size := by rw [h5.tm.1]; omega
      rw [har]; simp [this]
    have hr : At C 0 (fun _ _ => False) w S (fun _ => none) (mkS (asEr kk x) (asO kk ks) []) ar W S5 (fun i => match i with | 0 => m5 0 | 1 => m5 1 | _ => none) := by
      refine h5.renum (fun i => i) (ks := [0, 1]) rfl (by decide) (fun p hp => ?_) hTr (fun p hp => ?_) (fun i hi => ?_)
      · simp only [asO, List.mem_cons, List.not_mem_nil, or_false] at hp
        rcases hp with rfl | rfl
        · exact ⟨.cell (.slice kk) false (.row 1), rfl, rfl, fun u h => h, fun u b x h => h⟩
        · exact ⟨.row kk false ks, rfl, rfl, fun u h => h, fun u b x h => h⟩
      · simp only [asEr, List.mem_cons, List.not_mem_nil, or_false] at hp
        rcases hp with rfl | rfl
        · show RepV _ _ _ (.ptr 0 []) (ar.tmps.getD 2 undef)
          rw [or2 2 (by decide)]; exact h5.slot 2
        · show RepV _ _ _ (.val kk x) (ar.tmps.getD 7 undef)
          rw [or7]; exact hv2 _ _ _
      · obtain ⟨j, rfl⟩ : ∃ j, i = j + 2 := ⟨i - 2, by omega⟩
        rfl
    refine At.regionW (lr := some (w1.heap.size + 1)) hC rfl hr rfl (A.q2 ks x) (by cases one <;> rfl) (by cases one <;> rfl) fun a6 w6 S6 m6 h7 c6 d6 k6 kw6 => ?_
    have hL6 := k6 _ _ hL rfl
    refine ⟨_, run_beginRound hL6 (hst _ _), ?_⟩
    rw [hwith]
    have h8 := h7.grown (noMaps_at (by cases one <;> rfl)) (Gr.putObj w6 (w1.heap.size + 1) (.loop (rec .busy none))) (fun r e => by cases e; exact ⟨by omega, _, hL6, rfl⟩)
    have c7 : Keeps w6 S6 (w6.putObj (w1.heap.size + 1) (.loop (rec .busy none))) S6 := ⟨fun _ _ q => q, fun b o v _ hv => by rw [World.cell?_of_block (a := ⟨b, o, none⟩) (grown_cell (Gr.putObj w6 (w1.heap.size + 1) (.loop (rec .busy none))) (fun r e => by cases e; exact ⟨_, hL6, rfl⟩) hv)]; exact hv⟩
    have hL7 : (w6.putObj (w1.heap.size + 1) (.loop (rec .busy none))).heap[w1.heap.size + 1]? = some (.loop (rec .busy none)) := World.putObj_heap_same (Array.getElem?_eq_some_iff.1 hL6).1
    have hD7 : (w6.putObj (w1.heap.size + 1) (.loop (rec .busy none))).heap[w1.heap.size]? = some (.deferred (some [])) := (World.putObj_heap_other (by omega)).trans (k6 _ _ hD rfl)
    have kw7 : KeepsWalks w6 (w6.putObj (w1.heap.size + 1) (.loop (rec .busy none))) := KeepsWalks.putObj _ hL6 rfl
    generalize w6.putObj (w1.heap.size + 1) (.loop (rec .busy none)) = w7 at h8 c7 hL7 hD7 kw7 ⊢
    have q3 := A.q3 ks x
    have hroom : Nat.ble (ks.length + 1) 4294967296 = true := Nat.ble_eq_true_of_le (by omega)
    unfold room at q3
    rw [hroom] at q3
    refine wpIn_block (At.regionW (lr := some (w1.heap.size + 1)) hC rfl h8 (by cases one <;> rfl) q3 rfl rfl fun a10 w10 S10 m10 h10 c10 d10 k10 kw10 => ?_)
    have hL10 := k10 _ _ hL7 rfl
    refine ⟨_, _, run_endRound none hL10, rfl, ((kw6.trans kw7).trans kw10).trans (KeepsWalks.putObj _ hL10 rfl), S10, fun i => match i with | 0 => m10 0 | 1 => m10 1011 | _ => none, ?_, ?_, ?_⟩
    · have base : RepV w10 S10 m10 (.ptr 0 []) (a4.tmps.getD 2 undef) := by
        have := (hr.slot 2).keep (((c6.trans c7).trans c10)) (fun i u q => d10 i u (d6 i u q))
        rw [or2 2 (by decide)] at this; exact this
      refine At.grown (row := some (w1.heap.size + 1)) ?_ (noMaps_at rfl) (Gr.putObj w10 _ _) (fun r e => by cases e; exact ⟨by omega, _, hL10, rfl⟩)
      refine h10.renum (fun i => match i with | 1 => 1011 | k => k) (ks := [0, 1]) rfl (by decide) (fun p hp => ?_) h5.tm (fun p hp => ?_) (fun i hi => ?_)
      · simp only [asO, List.mem_cons, List.not_mem_nil, or_false] at hp
        rcases hp with rfl | rfl
        · exact ⟨.cell (.slice kk) false (.row 1011), rfl, rfl, fun u h => h, fun u b x h => h⟩
        · exact ⟨.row kk false _, rfl, rfl, fun u h => h, fun u b x h => h⟩
      · simp only [asE, List.mem_cons, List.not_mem_nil, or_false] at hp
        subst hp; exact base
      · obtain ⟨j, rfl⟩ : ∃ j, i = j + 2 := ⟨i - 2, by omega⟩
        rfl
    · exact (World.putObj_heap_same (Array.getElem?_eq_some_iff.1 hL10).1).trans (congrArg (fun l => some (Go.Obj.loop l)) (hwith2 .busy none .ready none))
    · exact (World.putObj_heap_other (by omega)).trans (k10 _ _ hD7 rfl)
  · exact ⟨m4, h6.grown (noMaps_at rfl) hg1 (fun r e => by cases e), hL1, hK1⟩
  · -- behind the iterator
    have hpe : ∀ st pe, (rec st pe).pending = pe := fun st pe => by rw [hrec]
    rintro en W2 ⟨⟨v, rfl⟩, ks, S5, hok, m5, h5, hL, hD⟩
    have hend : (Instr.endLoop (w1.heap.size + 1)).run P W2 = .ok (none) (W2.putObj (w1.heap.size + 1) (.loop { rec .ready none with state := .exhausted })) := (run_endLoop (P := P) hL (by rw [hrec]; simp)).trans (congrArg (fun p => Result.ok p _) (hpe _ _))
    refine ⟨none, _, hend, ?_⟩
    have h7 := h5.grown (noMaps_at rfl) (Gr.putObj W2 (w1.heap.size + 1) (.loop { rec .ready none with state := .exhausted })) (fun r e => by cases e; exact ⟨by omega, _, hL, rfl⟩)
    show Code.wpIn _ _ _ _ _ (withD [{ target := .collected w1.heap.size, args := #[] }] a4) _
    refine wpIn_seq (At.regionK hC rfl h7 rfl (A.q4 ks) rfl rfl fun a8 w8 S8 m8 h8 _ _ k8 => ?_)
    show Code.wpIn _ _ _ _ _ _ _
    refine wpIn_ret ?_
    have hdef := k8 _ _ ((World.putObj_heap_other (by omega)).trans hD) rfl
    refine ⟨by simp [withD], .inl ⟨w1.heap.size, _, rfl, run_takeDeferred hdef, ?_⟩⟩
    have h9 := h8.grown (noMaps_at rfl) (Gr.putObj w8 w1.heap.size (.deferred none)) (fun r e => by cases e; exact ⟨hwD, _, hdef, rfl⟩)
    obtain ⟨v, g1, g2⟩ := results_ok hC h9.rel (fn := fn) (t := .tc (.row 1) .tn) (by rw [A.hres]; rfl)
    exact ⟨v, g1, v, ks, S8, m8, rfl, hok, g2, h9.rel.toStoRel, h9.ext⟩
end
end Go.Proofs.D
