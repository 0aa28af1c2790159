/- maps.Copy into a map that is empty: it has what the other one has, in some order. -/
import Derived.Test.YtnmpidmmhmphkaaDTab
set_option linter.unusedVariables false
set_option linter.unusedSimpArgs false
namespace Go.Proofs.D
open Go.RowKit

def cpyBody (f : Func) : Code := .seq (.region 0 (rops (bodyOf f) 0) false) (.block 0 (.loop (.seq (.region 1 (rops (bodyOf f) 1) false) (.seq (.cond (.tmp 9) .skip (.exit 0)) (.block 1 (.seq (.region 2 (rops (bodyOf f) 2) false) (.region 3 (rops (bodyOf f) 3) false)))))))

/-- Behind the entry: the value is data, or stands in a variable of its own. -/
def cE (two : Bool) (vc : K) (z : El vc) : List (Nat × T) := [(4, .ptr 1004 []), (5, match two with | true => .ptr 1005 [] | false => .val vc z)]
def cO (two : Bool) (kk vc : K) (y : El kk) (z : El vc) : List (Nat × Obj) := match two with
  | true => [(1004, .cell kk false (.val kk y)), (1005, .cell vc false (.val vc z))]
  | false => [(1004, .cell kk false (.val kk y))]
def cK (two : Bool) : List Nat := match two with | true => [1004, 1005] | false => [1004]
def cD (two : Bool) : List Nat := match two with | true => [5, 4] | false => [4]
def cL (two : Bool) (fn : Func) : List Oper := match two with | true => [rg fn 2 3, rg fn 2 4, rg fn 2 5, rg fn 2 6] | false => [rg fn 2 3, rg fn 2 4, rg fn 2 5]

structure CpyFacts (P : Program) (C : Ctx) (gf : FuncId) (fn : Func) (two : Bool) (kk vc : K) (mt tk tv : TypeId) : Prop where
  hf : P.funcs[gf]? = some fn
  hname : (fn.name == "runtime.NumGoroutine") = false
  hb : fn.body = some (cpyBody fn)
  hres : fn.results = #[]
  hn : fn.ntmps = C.n
  h15 : 15 < C.n
  hm : P.underlying mt = some (.map tk tv)
  ht : C.ty tk = some kk
  r0 : (rops (bodyOf fn) 0).toList = [rg fn 0 0, rg fn 0 1]
  r1 : (rops (bodyOf fn) 1).toList = [rg fn 1 0, rg fn 1 1]
  r2 : (rops (bodyOf fn) 2).toList = rg fn 2 0 :: rg fn 2 1 :: rg fn 2 2 :: cL two fn
  r3 : (rops (bodyOf fn) 3).toList = [rg fn 3 0, rg fn 3 1, rg fn 3 2, rg fn 3 3]
  g : ([rg fn 0 0, rg fn 0 1, rg fn 1 0, rg fn 1 1, rg fn 2 0, rg fn 2 1, rg fn 2 2, rg fn 3 0, rg fn 3 3].all fun o => o.guard.isNone) = true
  o00 : (rg fn 0 0).op = .move (.tmp 1)
  o01 : (rg fn 0 1).op = .range mt (.tmp 6)
  o10 : (rg fn 1 0).op = .next (.tmp 7) false
  o11 : (rg fn 1 1).op = .extract (.tmp 8) 0
  o20 : (rg fn 2 0).op = .entry (.tmp 7)
  o21 : (rg fn 2 1).op = .extract (.tmp 10) 0
  o22 : (rg fn 2 2).op = .extract (.tmp 10) 1
  o30 : (rg fn 3 0).op = .move (.tmp 0)
  o33 : (rg fn 3 3).op = .mapUpdate mt (.tmp 13) (.tmp 14) (.tmp 15)
  d : [(rg fn 0 0).dst, (rg fn 0 1).dst, (rg fn 1 0).dst, (rg fn 1 1).dst, (rg fn 2 0).dst, (rg fn 2 1).dst, (rg fn 2 2).dst, (rg fn 3 0).dst, (rg fn 3 3).dst] = [some 6, some 7, some 8, some 9, some 10, some 11, some 12, some 13, none]
  k2 : (keepsT (cL two fn) 0 && keepsT (cL two fn) 7) = true
  k3 : (keepsT [rg fn 3 1, rg fn 3 2] 0 && keepsT [rg fn 3 1, rg fn 3 2] 7 && keepsT [rg fn 3 1, rg fn 3 2] 13) = true
  q2 : ∀ (y : El kk) (z : El vc), evalOps C (rops (bodyOf fn) 2).toList (cL two fn) (mkS [(11, .val kk y), (12, .val vc z)] [] []) (fun sF => some (factR [4, 5] (cK two) sF)) = some (toldR (cE two vc z) (cO two kk vc y z) (fun _ => none) (cD two))
  q3 : ∀ (y : El kk) (z : El vc), evalOps C (rops (bodyOf fn) 3).toList [rg fn 3 1, rg fn 3 2] (mkR (cE two vc z) (cO two kk vc y z) (fun _ => none) (cD two)) (fun sF => some (factR [14, 15] [] sF)) = some (toldR [(14, .val kk y), (15, .val vc z)] [] (fun _ => none) (cD two))

/-- Which entries have come. -/
def ComeE {α : Type} (es : List α) (fs : Array MapEntry) (seen : Array Nat) (cur : List α) : Prop :=
  ∃ ds : List Nat, ds.Nodup ∧ (∀ d ∈ ds, d < es.length) ∧ seen.toList = ds.filterMap (fun d => (fs[d]?).map (·.born)) ∧ cur = ds.filterMap (fun d => es[d]?)

section
variable {α : Type} {es cur : List α} {fs : Array MapEntry} {seen : Array Nat}
theorem ComeE.start : ComeE es fs #[] [] := ⟨[], List.nodup_nil, (fun _ h => by cases h), rfl, rfl⟩
theorem ComeE.size (hlen : es.length = fs.size) (h : ComeE es fs seen cur) : seen.size ≤ es.length := by
  obtain ⟨ds, h1, h2, h3, h4⟩ := h
  have e2 : seen.size = ds.length := by
    rw [← Array.length_toList, h3]
    exact fm_len fun d hd => by rw [Array.getElem?_eq_getElem (by have := h2 d hd; omega)]; rfl
  have := nodup_le _ ds h1 h2
  omega
theorem ComeE.next (hlen : es.length = fs.size) (h : ComeE es fs seen cur) (hB : (fs.toList.map (·.born)).Nodup) {f : MapEntry} (hf : f ∈ (leftOf fs seen).toList) :
    ∃ (d : Nat) (e : α), fs[d]? = some f ∧ es[d]? = some e ∧ ComeE es fs (seen.push f.born) (cur ++ [e]) ∧ ∀ x ∈ cur, ∃ d', d' ≠ d ∧ es[d']? = some x := by
  unfold leftOf at hf
  rw [Array.toList_filter, List.mem_filter] at hf
  obtain ⟨hm, hn⟩ := hf
  obtain ⟨d, hd⟩ := List.mem_iff_getElem?.1 hm
  rw [Array.getElem?_toList] at hd
  have hdl : d < fs.size := (Array.getElem?_eq_some_iff.1 hd).1
  obtain ⟨e, he⟩ : ∃ e, es[d]? = some e := ⟨_, List.getElem?_eq_getElem (by omega)⟩
  have hn : ¬ f.born ∈ seen := by simpa using hn
  obtain ⟨ds, h1, h2, h3, h4⟩ := h
  have hnd : d ∉ ds := fun q => hn (Array.mem_toList_iff.1 (by rw [h3]; exact List.mem_filterMap.2 ⟨d, q, by rw [hd]; rfl⟩))
  refine ⟨d, e, hd, he, ⟨ds ++ [d], List.nodup_append.2 ⟨h1, by simp, fun a ha b hb e => ?_⟩, fun x hx => ?_, ?_, ?_⟩, fun x hx => ?_⟩
  · simp only [List.mem_singleton] at hb
    subst hb; subst e; exact hnd ha
  · rcases List.mem_append.1 hx with q | q
    · exact h2 x q
    · simp only [List.mem_singleton] at q; subst q; omega
  · rw [Array.toList_push, List.filterMap_append, h3]; simp [hd]
  · rw [List.filterMap_append, h4]; simp [he]
  · rw [h4] at hx
    obtain ⟨d', hd', e'⟩ := List.mem_filterMap.1 hx
    exact ⟨d', fun q => hnd (q ▸ hd'), e'⟩
theorem ComeE.done (hlen : es.length = fs.size) (h : ComeE es fs seen cur) (hB : (fs.toList.map (·.born)).Nodup) (h0 : (leftOf fs seen).size = 0) : cur.Perm es := by
  obtain ⟨ds, h1, h2, h3, h4⟩ := h
  have hall : ∀ d, d < es.length → d ∈ ds := fun d hd => by
    have hf : fs[d]? = some (fs[d]'(by omega)) := Array.getElem?_eq_getElem (by omega)
    have hin : (fs[d]'(by omega)).born ∈ seen := by
      refine Classical.byContradiction fun q => ?_
      have : (fs[d]'(by omega)) ∈ (leftOf fs seen).toList := by
        unfold leftOf
        rw [Array.toList_filter, List.mem_filter]
        exact ⟨by simp, by simpa using q⟩
      have hl : (leftOf fs seen).toList = [] := List.eq_nil_of_length_eq_zero (by rw [Array.length_toList]; exact h0)
      rw [hl] at this; cases this
    have hin : (fs[d]'(by omega)).born ∈ seen.toList := Array.mem_toList_iff.2 hin
    rw [h3] at hin
    obtain ⟨d', hd', e⟩ := List.mem_filterMap.1 hin
    obtain ⟨f', e1, e2⟩ := Option.map_eq_some_iff.1 e
    have : d' = d := by
      have a1 : (fs.toList.map (·.born))[d']? = some (fs[d]'(by omega)).born := by rw [List.getElem?_map, Array.getElem?_toList, e1]; simp [e2]
      have a2 : (fs.toList.map (·.born))[d]? = some (fs[d]'(by omega)).born := by rw [List.getElem?_map, Array.getElem?_toList, hf]; rfl
      exact nodup_inj hB a1 a2
    rw [← this]; exact hd'
  have hp : ds.Perm (List.range es.length) := (List.perm_ext_iff_of_nodup h1 List.nodup_range).2 fun d => ⟨fun q => List.mem_range.2 (h2 d q), fun q => hall d (List.mem_range.1 q)⟩
  have e : (List.range es.length).filterMap (fun d => es[d]?) = es := by
    have := fm_range es (fun x => x)
    simpa using this
  rw [h4]
  have := hp.filterMap (fun d => es[d]?)
  rwa [e] at this
end

section
variable {P : Program} {C : Ctx} {gf : FuncId} {fn : Func} {kk vc : K} {two : Bool} {mt tk tv : TypeId} {a a' : Act} {w w' : World} {S S' : Cells} {m m' : Nat → Option MB}

theorem fnd_miss (hf : kk.flat = true) {y : El kk} : ∀ {es : List (El kk × El vc)} {fs : List MapEntry} {i : Nat}, (∀ e ∈ es, e.1 ≠ y) → fnd kk vc y es fs i = none
  | [], _, _, _ => by simp [fnd]
  | e :: r, [], _, _ => by simp [fnd]
  | e :: r, f :: q, i, h => by
    simp only [fnd]
    rw [eqE_ne hf (fun q => h e List.mem_cons_self q.symm)]
    exact fnd_miss hf fun x hx => h x (List.mem_cons_of_mem _ hx)

/-- What has been laid into the other map. -/
structure Laid (W0 w : World) (S0 S : Cells) (kk vc : K) (cur : List (El kk × El vc)) (bd : Nat) : Prop where
  lt : bd < W0.heap.size
  gr : Gr W0 w (some bd)
  more : ∀ b x, S0 b x → S b x
  less : ∀ b x, S b x → S0 b x ∨ W0.heap.size ≤ b
  live : ∀ b x, S b x → b < w.heap.size
  mp : ∃ fs clock, w.heap[bd]? = some (.map fs clock) ∧ MapL w S kk vc cur fs.toList ∧ Born fs clock

theorem Laid.grow {W0 : World} {S0 : Cells} {cur : List (El kk × El vc)} {bd : Nat} {row : Option Nat} (h : Laid W0 w S0 S kk vc cur bd) (hg : Gr w w' row) (hr : ∀ r, row = some r → W0.heap.size ≤ r ∧ ∃ o, w.heap[r]? = some o ∧ o.isWalk = true) (hS : ∀ b x, S b x → S' b x) (hS' : ∀ b x, S' b x → S b x ∨ w.heap.size ≤ b) (hl : ∀ b x, S' b x → b < w'.heap.size) : Laid W0 w' S0 S' kk vc cur bd := by
  obtain ⟨fs, clock, h1, h2, h3⟩ := h.mp
  have hne : ∀ r, row = some r → ∃ o, w.heap[r]? = some o ∧ o.isCells = false := fun r e => by
    obtain ⟨-, o, q1, q2⟩ := hr r e
    exact ⟨o, q1, by cases o <;> simp_all [Go.Obj.isWalk, Go.Obj.isCells]⟩
  have hk : Keeps w S w' S' := ⟨hS, fun b o v _ hv => by rw [World.cell?_of_block (a := ⟨b, o, none⟩) (grown_cell hg hne hv)]; exact hv⟩
  refine ⟨h.lt, ⟨⟨hg.os.trans h.gr.os, hg.tape.trans h.gr.tape, hg.output.trans h.gr.output, Nat.le_trans h.gr.size hg.size, fun i hi hi' => ?_⟩, Nat.le_trans h.gr.drawn hg.drawn⟩, fun b x q => hS b x (h.more b x q), fun b x q => ?_, hl, fs, clock, ?_, h2.keep hk, h3⟩
  · refine (hg.block i (Nat.lt_of_lt_of_le hi h.gr.size) fun e => ?_).trans (h.gr.block i hi hi')
    have := (hr i e.symm).1; omega
  · rcases hS' b x q with q | q
    · exact h.less b x q
    · exact .inr (Nat.le_trans h.gr.size q)
  · refine (hg.block bd (Array.getElem?_eq_some_iff.1 h1).1 fun e => ?_).trans h1
    have := (hr bd e.symm).1
    have := h.lt
    omega

def muC (n r : Nat) (w : World) : Nat := muK n r w

theorem copy_in (hC : CtxOk P C) (B : CpyFacts P C gf fn two kk vc mt tk tv) (hfl : kk.flat = true) {es : List (El kk × El vc)} {fs fd : Array MapEntry} {clock cd bs bd : Nat} {W0 : World} {S0 : Cells} (hM : MapL W0 S0 kk vc es fs.toList) (hN : (es.map (·.1)).Nodup) (hB : Born fs clock)
    (hl0 : ∀ b x, S0 b x → b < W0.heap.size) (hnd : ∀ x, ¬ S0 bd x) (hm : W0.heap[bs]? = some (.map fs clock)) (hmd : W0.heap[bd]? = some (.map fd cd)) (hfd : fd.toList = []) (hBd : Born fd cd) (hne : bs ≠ bd) :
    CallsIn (Fr none) 0 P gf #[.map (some bd), .map (some bs)] W0 fun en W' => en = .returned (.tuple #[]) ∧ ∃ cur S', cur.Perm es ∧ Laid W0 W' S0 S' kk vc cur bd := by
  have gs := B.g
  simp only [List.all_cons, List.all_nil, Bool.and_eq_true, Option.isNone_iff_eq_none, and_true] at gs
  obtain ⟨g00, g01, g10, g11, g20, g21, g22, g30, g33⟩ := gs
  have ds := B.d
  simp only [List.cons.injEq, and_true] at ds
  obtain ⟨d00, d01, d10, d11, d20, d21, d22, d30, d33⟩ := ds
  have k2 := B.k2
  have k3 := B.k3
  simp only [Bool.and_eq_true] at k2 k3
  have hlen : es.length = fs.size := by rw [hM.length, Array.length_toList]
  refine callsIn_of_wp B.hf B.hb trivial ?_ rfl
  have h15 := B.h15
  obtain ⟨a0, ha0⟩ : ∃ a0 : Act, a0 = { tmps := #[.map (some bd), .map (some bs)] ++ Array.replicate (fn.ntmps - (#[Value.map (some bd), .map (some bs)] : Array Value).size) undef, defers := [] } := ⟨_, rfl⟩
  rw [← ha0]
  have hT0 : TmOk C a0 := by
    rw [ha0]
    refine ⟨?_, rfl⟩
    have := B.hn
    simp; omega
  have hs0 : a0.tmps.getD 0 undef = .map (some bd) := by rw [ha0]; simp [Array.getElem?_append]
  have hs1 : a0.tmps.getD 1 undef = .map (some bs) := by rw [ha0]; simp [Array.getElem?_append]
  have sz : ∀ {r n : Nat} {l : List Oper}, (rops (bodyOf fn) r).toList = l → (rops (bodyOf fn) r).size = l.length := fun h => by rw [← Array.length_toList, h]
  have hat : ∀ {r : Nat} {l : List Oper}, (rops (bodyOf fn) r).toList = l → ∀ j, (rops (bodyOf fn) r)[j]? = l[j]? := fun h j => by rw [← Array.getElem?_toList, h]
  have put_self : ∀ {a : Act} {t : Nat} {v : Value}, TmOk C a → t < 16 → (a.put (some t) v).tmps.getD t undef = v := fun {a t v} hT ht => by
    have : t < a.tmps.size := by rw [hT.1]; omega
    simp [Act.put, this]
  have hlm : bs < W0.heap.size := (Array.getElem?_eq_some_iff.1 hm).1
  have hlmd : bd < W0.heap.size := (Array.getElem?_eq_some_iff.1 hmd).1
  refine wpIn_seq (wpIn_region ?_)
  rw [sz (n := 0) B.r0]
  show wpOpsIn _ _ _ _ _ [0, 1] _ _
  refine opsIn_cons (hat B.r0 0) g00 ⟨fun _ _ => trivial, ?_⟩
  rw [Oper.semAt_eq _ _ _ (fun c q => by rw [B.o00] at q; cases q)]
  have e1 : a0.eval (.tmp 1) = .map (some bs) := hs1
  have r00 : (execOp a0.eval (rg fn 0 0)).run P W0 = .ok (.value (.map (some bs))) W0 := by simp [execOp, B.o00, e1]
  rw [r00, Oper.uponIn_value, d00]
  have T1 : TmOk C (a0.put (some 6) (.map (some bs))) := hT0.put _ _
  have e4 : (a0.put (some 6) (.map (some bs))).eval (.tmp 6) = .map (some bs) := put_self hT0 (by omega)
  refine opsIn_cons (hat B.r0 1) g01 ⟨fun _ _ => trivial, ?_⟩
  rw [Oper.semAt_eq _ _ _ (fun c q => by rw [B.o01] at q; cases q)]
  have r01 : (execOp (a0.put (some 6) (.map (some bs))).eval (rg fn 0 1)).run P W0 = .ok (.value (.pointer (some ⟨W0.heap.size, 0, none⟩))) (W0.alloc (.mapIter (some bs) clock #[] clock)) := by
    simp [execOp, B.o01, e4, Sem.run_bind, run_range_map W0 mt tk tv bs fs clock B.hm hm]
  rw [r01, Oper.uponIn_value, d01]
  obtain ⟨a1, ha1⟩ : ∃ a1, a1 = (a0.put (some 6) (.map (some bs))).put (some 7) (.pointer (some ⟨W0.heap.size, 0, none⟩)) := ⟨_, rfl⟩
  rw [← ha1]
  show Code.wpIn _ _ _ _ _ a1 _
  have T2 : TmOk C a1 := by rw [ha1]; exact T1.put _ _
  have i0 : a1.tmps.getD 0 undef = .map (some bd) := by rw [ha1, put_other (by decide), put_other (by decide)]; exact hs0
  have i5 : a1.tmps.getD 7 undef = .pointer (some ⟨W0.heap.size, 0, none⟩) := by rw [ha1]; exact put_self T1 (by omega)
  have hal := Gr.alloc W0 (.mapIter (some bs) clock #[] clock)
  have hmA : (W0.alloc (.mapIter (some bs) clock #[] clock)).heap[bs]? = some (.map fs clock) := (hal.block bs hlm (by simp)).trans hm
  have hiA : (W0.alloc (.mapIter (some bs) clock #[] clock)).heap[W0.heap.size]? = some (.mapIter (some bs) clock #[] clock) := heap_alloc_new _ _
  have L0 : Laid W0 W0 S0 S0 kk vc [] bd := ⟨hlmd, ⟨(Gr.refl W0 _).1, (Gr.refl W0 none).2⟩, fun _ _ q => q, fun _ _ q => .inl q, hl0, fd, cd, hmd, by rw [hfd]; trivial, hBd⟩
  refine wpIn_block (wpIn_loop (fun a w => ∃ (cur : List (El kk × El vc)) (seen : Array Nat) (S : Cells), ComeE es fs seen cur ∧ Laid W0 w S0 S kk vc cur bd ∧ TmOk C a ∧ a.tmps.getD 0 undef = .map (some bd) ∧ a.tmps.getD 7 undef = .pointer (some ⟨W0.heap.size, 0, none⟩) ∧
    w.heap[bs]? = some (.map fs clock) ∧ w.heap[W0.heap.size]? = some (.mapIter (some bs) clock seen clock)) (fun _ w => muC es.length W0.heap.size w) ?_ ?_)
  · exact ⟨[], #[], S0, ComeE.start, L0.grow hal (fun r e => by cases e) (fun _ _ q => q) (fun _ _ q => .inl q) (fun b x q => Nat.lt_of_lt_of_le (hl0 b x q) hal.size), T2, i0, i5, hmA, hiA⟩
  · rintro a2 w2 ⟨cur, seen, S2, hc, hL, hT, i0, i5, hm2, hi2⟩
    have hrl : W0.heap.size < w2.heap.size := (Array.getElem?_eq_some_iff.1 hi2).1
    refine wpIn_seq (wpIn_region ?_)
    rw [sz (n := 0) B.r1]
    show wpOpsIn _ _ _ _ _ [0, 1] _ _
    refine opsIn_cons (hat B.r1 0) g10 ⟨fun _ _ => trivial, ?_⟩
    rw [Oper.semAt_eq _ _ _ (fun c q => by rw [B.o10] at q; cases q)]
    have e5 : a2.eval (.tmp 7) = .pointer (some ⟨W0.heap.size, 0, none⟩) := i5
    have ext : ∀ (V : Array Value) (b : Bool) (w' : World), V[0]? = some (.bool b) → (execOp (a2.put (some 8) (.tuple V)).eval (rg fn 1 1)).run P w' = .ok (.value (.bool b)) w' := fun V b w' hV => by
      have e6 : (a2.put (some 8) (.tuple V)).eval (.tmp 8) = .tuple V := put_self hT (by omega)
      simp [execOp, B.o11, e6, Sem.run_bind, Instr.extract, hV]
    rcases run_next_at (P := P) w2 (rg fn 1 0).type W0.heap.size bs clock clock seen fs clock hi2 hm2 hB.1 (Nat.le_refl _) with ⟨hz, hrun⟩ | ⟨f, hf, w3, hw3, hrun⟩
    · -- nothing is left
      have r10 : (execOp a2.eval (rg fn 1 0)).run P w2 = .ok (.value (.tuple #[.bool false])) w2 := by simp [execOp, B.o10, e5, Sem.run_bind, hrun]
      rw [r10, Oper.uponIn_value, d10]
      refine opsIn_cons (hat B.r1 1) g11 ⟨fun _ _ => trivial, ?_⟩
      rw [Oper.semAt_eq _ _ _ (fun c q => by rw [B.o11] at q; cases q), ext _ false w2 rfl, Oper.uponIn_value, d11]
      have e7 : ((a2.put (some 8) (.tuple #[.bool false])).put (some 9) (.bool false)).eval (.tmp 9) = .bool false := put_self (hT.put _ _) (by omega)
      show Code.wpIn _ _ _ _ _ _ _
      refine wpIn_seq (wpIn_cond_false e7 (wpIn_exit ?_))
      simp only [Exit.then, Exit.inBlock, if_true]
      exact ⟨((hT.put _ _).put _ _).2, _, results_none B.hres _ _ _, rfl, cur, S2, hc.done hlen hB.2 hz, hL⟩
    · -- an entry
      have r10 : (execOp a2.eval (rg fn 1 0)).run P w2 = .ok (.value (.tuple #[.bool true, f.key, f.val])) (ChangeMaps.setBlock w3 W0.heap.size (.mapIter (some bs) clock (seen.push f.born) clock)) := by simp [execOp, B.o10, e5, Sem.run_bind, hrun]
      obtain ⟨w4, hw4⟩ : ∃ w4, w4 = ChangeMaps.setBlock w3 W0.heap.size (.mapIter (some bs) clock (seen.push f.born) clock) := ⟨_, rfl⟩
      rw [r10, Oper.uponIn_value, d10, ← hw4]
      refine opsIn_cons (hat B.r1 1) g11 ⟨fun _ _ => trivial, ?_⟩
      rw [Oper.semAt_eq _ _ _ (fun c q => by rw [B.o11] at q; cases q), ext _ true w4 rfl, Oper.uponIn_value, d11]
      obtain ⟨a3, ha3⟩ : ∃ a3, a3 = (a2.put (some 8) (.tuple #[.bool true, f.key, f.val])).put (some 9) (.bool true) := ⟨_, rfl⟩
      rw [← ha3]
      have T3 : TmOk C a3 := by rw [ha3]; exact (hT.put _ _).put _ _
      have e7 : a3.eval (.tmp 9) = .bool true := by rw [ha3]; exact put_self (hT.put _ _) (by omega)
      have j0 : a3.tmps.getD 0 undef = .map (some bd) := by rw [ha3, put_other (by decide), put_other (by decide)]; exact i0
      have j5 : a3.tmps.getD 7 undef = .pointer (some ⟨W0.heap.size, 0, none⟩) := by rw [ha3, put_other (by decide), put_other (by decide)]; exact i5
      have hh3 : w3.heap = w2.heap := by rcases hw3 with q | q <;> rw [q] <;> rfl
      have hi3 : w3.heap[W0.heap.size]? = some (.mapIter (some bs) clock seen clock) := by rw [hh3]; exact hi2
      obtain ⟨s1, s2⟩ := MapKept.heap_set (o' := .mapIter (some bs) clock (seen.push f.born) clock) hi3
      have hi4 : w4.heap[W0.heap.size]? = some (.mapIter (some bs) clock (seen.push f.born) clock) := by rw [hw4]; exact s1
      have hm4 : w4.heap[bs]? = some (.map fs clock) := by
        rw [hw4]
        refine (s2 bs (by omega)).trans ?_
        rw [hh3]; exact hm2
      have hg24 : Gr w2 w4 (some W0.heap.size) := by
        refine ⟨⟨?_, ?_, ?_, ?_, fun k hk hne => ?_⟩, ?_⟩
        · rw [hw4]; rcases hw3 with q | q <;> rw [q] <;> rfl
        · rw [hw4]; rcases hw3 with q | q <;> rw [q] <;> rfl
        · rw [hw4]; rcases hw3 with q | q <;> rw [q] <;> rfl
        · rw [hw4]; show w2.heap.size ≤ (w3.heap.setIfInBounds _ _).size; rw [Array.size_setIfInBounds, hh3]; exact Nat.le_refl _
        · rw [hw4]; refine (s2 k fun e => hne (by rw [e])).trans ?_; rw [hh3]
        · rw [hw4]; rcases hw3 with q | q <;> rw [q]
          · exact Nat.le_refl _
          · exact Nat.le_succ _
      have hL4 : Laid W0 w4 S0 S2 kk vc cur bd := hL.grow hg24 (fun r e => by cases e; exact ⟨Nat.le_refl _, _, hi2, rfl⟩) (fun _ _ q => q) (fun _ _ q => .inl q) (fun b x q => Nat.lt_of_lt_of_le (hL.live b x q) hg24.size)
      obtain ⟨d, e, hfd', hed, hc4, hcur⟩ := hc.next hlen hB.2 hf
      refine wpIn_seq (wpIn_cond_true e7 (wpIn_skip ?_))
      show Code.wpIn _ _ _ _ _ _ _
      refine wpIn_block (wpIn_seq (wpIn_region ?_))
      rw [show (rops (bodyOf fn) 2).size = (cL two fn).length + 3 by rw [← Array.length_toList, B.r2]; rfl, List.range_eq_range']
      show wpOpsIn _ _ _ _ _ (0 :: 1 :: 2 :: List.range' 3 (cL two fn).length) _ _
      refine opsIn_cons (hat B.r2 0) g20 ⟨fun _ _ => trivial, ?_⟩
      rw [Oper.semAt_eq _ _ _ (fun c q => by rw [B.o20] at q; cases q)]
      have e5' : a3.eval (.tmp 7) = .pointer (some ⟨W0.heap.size, 0, none⟩) := j5
      have hfm : f ∈ fs.toList := List.mem_of_getElem? (by rw [Array.getElem?_toList]; exact hfd')
      have r20 : (execOp a3.eval (rg fn 2 0)).run P w4 = .ok (.value (.tuple #[f.key, f.val])) w4 := by
        simp [execOp, B.o20, e5', Sem.run_bind, run_entry_at (P := P) w4 W0.heap.size bs clock seen fs clock f hi4 hm4 hfm hB.2]
      rw [r20, Oper.uponIn_value, d20]
      refine opsIn_cons (hat B.r2 1) g21 ⟨fun _ _ => trivial, ?_⟩
      rw [Oper.semAt_eq _ _ _ (fun c q => by rw [B.o21] at q; cases q)]
      have e8 : (a3.put (some 10) (.tuple #[f.key, f.val])).eval (.tmp 10) = .tuple #[f.key, f.val] := put_self T3 (by omega)
      have r21 : (execOp (a3.put (some 10) (.tuple #[f.key, f.val])).eval (rg fn 2 1)).run P w4 = .ok (.value f.key) w4 := by simp [execOp, B.o21, e8, Sem.run_bind, Instr.extract]
      rw [r21, Oper.uponIn_value, d21]
      refine opsIn_cons (hat B.r2 2) g22 ⟨fun _ _ => trivial, ?_⟩
      rw [Oper.semAt_eq _ _ _ (fun c q => by rw [B.o22] at q; cases q)]
      have e9 : ((a3.put (some 10) (.tuple #[f.key, f.val])).put (some 11) f.key).eval (.tmp 10) = .tuple #[f.key, f.val] := (put_other (by decide)).trans e8
      have r22 : (execOp ((a3.put (some 10) (.tuple #[f.key, f.val])).put (some 11) f.key).eval (rg fn 2 2)).run P w4 = .ok (.value f.val) w4 := by simp [execOp, B.o22, e9, Sem.run_bind, Instr.extract]
      rw [r22, Oper.uponIn_value, d22]
      obtain ⟨a5, ha5⟩ : ∃ a5, a5 = ((a3.put (some 10) (.tuple #[f.key, f.val])).put (some 11) f.key).put (some 12) f.val := ⟨_, rfl⟩
      rw [← ha5]
      have T5 : TmOk C a5 := by rw [ha5]; exact ((T3.put _ _).put _ _).put _ _
      have v11 : a5.tmps.getD 11 undef = f.key := by rw [ha5, put_other (by decide)]; exact put_self (T3.put _ _) (by omega)
      have v12 : a5.tmps.getD 12 undef = f.val := by rw [ha5]; exact put_self ((T3.put _ _).put _ _) (by omega)
      have l0 : a5.tmps.getD 0 undef = .map (some bd) := by rw [ha5, put_other (by decide), put_other (by decide), put_other (by decide)]; exact j0
      have l5 : a5.tmps.getD 7 undef = .pointer (some ⟨W0.heap.size, 0, none⟩) := by rw [ha5, put_other (by decide), put_other (by decide), put_other (by decide)]; exact j5
      -- the entry's key and value
      have hk04 : Keeps W0 S0 w4 S2 := ⟨hL4.more, fun b o v hs hv => by
        rw [World.cell?_of_block (a := ⟨b, o, none⟩) (hL4.gr.block b (cell_lt hv) fun q => by cases q; exact hnd _ hs)]; exact hv⟩
      obtain ⟨⟨ck, rk, sk⟩, ⟨cv, rv, sv⟩⟩ := hM.at hed (by rw [Array.getElem?_toList]; exact hfd')
      have rk4 := rk.keep hk04
      have rv4 := rv.keep hk04
      have hA5 := At.bare hL4.live T5 (E := [(11, .val kk e.1), (12, .val vc e.2)]) (fun p hp => by
        simp only [List.mem_cons, List.not_mem_nil, or_false] at hp
        rcases hp with q | q <;> subst q
        · show RepV _ _ _ (.val kk e.1) (a5.tmps.getD 11 undef)
          rw [v11]; exact .inr ⟨ck, rk4, sk⟩
        · show RepV _ _ _ (.val vc e.2) (a5.tmps.getD 12 undef)
          rw [v12]; exact .inr ⟨cv, rv4, sv⟩)
      rw [show a5 = withD [] a5 from (withD_self T5.2).symm]
      rw [show List.range' 3 (cL two fn).length = List.range' 3 (cL two fn).length ++ [] from (List.append_nil _).symm]
      refine At.opsS (E' := cE two vc e.2) (O' := cO two kk vc e.1 e.2) (ρ' := fun _ => none) (d' := cD two) hC rfl (fun j y hy => ?_) hA5 rfl (by cases two <;> rfl) (fun i o q => by cases q) (B.q2 e.1 e.2) fun a6 w6 S6 m6 h6 k6 _ x6 s6 => ?_
      · rw [hat B.r2, show 3 + j = j + 1 + 1 + 1 by omega]
        simpa using hy
      show Code.wpIn _ _ _ _ _ (withD [] a6) _
      have n0 : a6.tmps.getD 0 undef = .map (some bd) := (s6 0 k2.1).trans l0
      have n5 : a6.tmps.getD 7 undef = .pointer (some ⟨W0.heap.size, 0, none⟩) := (s6 7 k2.2).trans l5
      refine wpIn_region ?_
      rw [sz (n := 0) B.r3]
      show wpOpsIn _ _ _ _ _ (0 :: (List.range' 1 [rg fn 3 1, rg fn 3 2].length ++ [3])) _ _
      refine opsIn_cons (hat B.r3 0) g30 ⟨fun _ _ => trivial, ?_⟩
      rw [Oper.semAt_eq _ _ _ (fun c q => by rw [B.o30] at q; cases q)]
      have he6 : (withD [] a6).eval = a6.eval := by funext x; cases x <;> rfl
      have p0 : a6.eval (.tmp 0) = .map (some bd) := n0
      have r30 : (execOp (withD [] a6).eval (rg fn 3 0)).run P w6 = .ok (.value (.map (some bd))) w6 := by rw [he6]; simp [execOp, B.o30, p0]
      rw [r30, Oper.uponIn_value, d30, withD_put]
      have h7 : At C 0 (fun _ _ => False) w4 S2 (fun _ => none) (mkR (cE two vc e.2) (cO two kk vc e.1 e.2) (fun _ => none) (cD two)) (a6.put (some 13) (.map (some bd))) w6 S6 m6 := by
        refine (h6.putT (d := 13) (t := .any 0) (by omega) (.inl rfl)).told (fun t => ?_) rfl rfl
        by_cases et : t = 13
        · subst et; exact .inl rfl
        · refine .inr ?_
          show _ = (bif Nat.beq t 13 then _ else _)
          have : Nat.beq t 13 = false := by cases hq : Nat.beq t 13 with
            | false => rfl
            | true => exact absurd (Nat.eq_of_beq_eq_true hq) et
          rw [this]; rfl
      refine At.opsS (E' := [(14, .val kk e.1), (15, .val vc e.2)]) (O' := []) (ρ' := fun _ => none) (d' := cD two) hC rfl (fun j y hy => ?_) h7 rfl rfl (fun i o q => by cases q) (B.q3 e.1 e.2) fun a8 w8 S8 m8 h8 k8 _ x8 s8 => ?_
      · rw [hat B.r3]
        match j, hy with
        | 0, hy => exact hy
        | 1, hy => exact hy
        | j + 2, hy => simp at hy
      have q0 : a8.tmps.getD 0 undef = .map (some bd) := (s8 0 k3.1.1).trans ((put_other (by decide)).trans n0)
      have q5 : a8.tmps.getD 7 undef = .pointer (some ⟨W0.heap.size, 0, none⟩) := (s8 7 k3.1.2).trans ((put_other (by decide)).trans n5)
      have q13 : a8.tmps.getD 13 undef = .map (some bd) := (s8 13 k3.2).trans (put_self h6.tm (by omega))
      obtain ⟨cy, ry, sy⟩ := of_repV (T' := .val kk e.1) rfl (h8.rel.env 14)
      obtain ⟨cz, rz, sz'⟩ := of_repV (T' := .val vc e.2) rfl (h8.rel.env 15)
      have hg48 : Gr w4 w8 none := h8.ext.grownBy
      have hL8 : Laid W0 w8 S0 S8 kk vc cur bd := hL4.grow hg48 (fun r e => by cases e) h8.ext.more (fun b x q => by
        rcases h8.ext.less b x q with q | q | q
        · exact .inl q
        · exact q.elim
        · exact .inr q) h8.rel.live
      have hi8 := (hg48.block _ (Array.getElem?_eq_some_iff.1 hi4).1 (by simp)).trans hi4
      have hm8 := (hg48.block _ (Array.getElem?_eq_some_iff.1 hm4).1 (by simp)).trans hm4
      obtain ⟨fs1, clock1, hb1, hM1, hB1⟩ := hL8.mp
      -- the write
      have hdep : depthK kk ≤ 9999 := by have := ((hC.ty _ _ B.ht).eqg hfl).2.2; omega
      have hck := checkKey_ok (w := w8) (S := S8) hC.ty false 9999 kk tk e.1 cy (a8.tmps.getD 14 undef) hdep B.ht hfl ry sy
      have hfk := findKey_ok (w := w8) (S := S8) (vc := vc) hC.ty B.ht hfl ry sy hM1
      have hmiss : fnd kk vc e.1 cur fs1.toList 0 = none := fnd_miss hfl fun x hx q => by
        obtain ⟨d', hd', hx'⟩ := hcur x hx
        have a1 : (es.map (·.1))[d']? = some e.1 := by rw [List.getElem?_map, hx']; simp [q]
        have a2 : (es.map (·.1))[d]? = some e.1 := by rw [List.getElem?_map, hed]; rfl
        exact hd' (nodup_inj hN a1 a2)
      rw [hmiss] at hfk
      obtain ⟨W9, hW9⟩ : ∃ W9, W9 = { w8 with heap := w8.heap.setIfInBounds bd (.map (fs1.push { key := a8.tmps.getD 14 undef, val := a8.tmps.getD 15 undef, born := clock1 }) (clock1 + 1)) } := ⟨_, rfl⟩
      refine opsIn_cons (hat B.r3 3) g33 ⟨fun _ _ => trivial, ?_⟩
      rw [Oper.semAt_eq _ _ _ (fun c q => by rw [B.o33] at q; cases q)]
      have he8 : (withD [] a8).eval = a8.eval := by funext x; cases x <;> rfl
      have r33 : (execOp (withD [] a8).eval (rg fn 3 3)).run P w8 = .ok .skip W9 := by
        have e13 : a8.eval (.tmp 13) = .map (some bd) := q13
        have e14 : a8.eval (.tmp 14) = a8.tmps.getD 14 undef := rfl
        have e15 : a8.eval (.tmp 15) = a8.tmps.getD 15 undef := rfl
        have hmu : (Instr.mapUpdate mt (.map (some bd)) (a8.tmps.getD 14 undef) (a8.tmps.getD 15 undef)).run P w8 = .ok () W9 := by
          rw [hW9]
          generalize a8.tmps.getD 14 undef = k14 at *
          generalize a8.tmps.getD 15 undef = k15 at *
          simp [Instr.mapUpdate, Sem.run_bind, run_underlying B.hm, MapKept.run_getObj_map hb1, hck, hfk, MapKept.run_setObj_map _ hb1]
        rw [he8]
        simp only [execOp, B.o33, e13, e14, e15, Sem.run_bind, hmu, Result.andThen_ok]
        rfl
      rw [r33, Oper.uponIn_skip, d33]
      show wpOpsIn _ _ _ _ _ [] (withD [] a8) W9
      rw [withD_self h8.tm.2]
      obtain ⟨t1, t2⟩ := MapKept.heap_set (o' := .map (fs1.push { key := a8.tmps.getD 14 undef, val := a8.tmps.getD 15 undef, born := clock1 }) (clock1 + 1)) hb1
      have hns : ∀ x, ¬ S8 bd x := fun x q => by
        rcases hL8.less bd x q with q | q
        · exact hnd x q
        · omega
      have hkk : Keeps w8 S8 W9 S8 := ⟨fun _ _ q => q, fun b o v hs hv => by
        have hnb : b ≠ bd := fun q => by subst q; exact hns _ hs
        rw [World.cell?_of_block (a := ⟨b, o, none⟩) (show W9.heap[b]? = w8.heap[b]? by rw [hW9]; exact t2 b hnb)]; exact hv⟩
      have hL9 : Laid W0 W9 S0 S8 kk vc (cur ++ [e]) bd := by
        refine ⟨hlmd, ⟨⟨?_, ?_, ?_, ?_, fun i hi hne' => ?_⟩, ?_⟩, hL8.more, hL8.less, fun b x q => ?_, _, clock1 + 1, by rw [hW9]; exact t1, ?_, hB1.push _ _⟩
        · rw [hW9]; exact hL8.gr.os
        · rw [hW9]; exact hL8.gr.tape
        · rw [hW9]; exact hL8.gr.output
        · rw [hW9]; show _ ≤ (w8.heap.setIfInBounds _ _).size; rw [Array.size_setIfInBounds]; exact hL8.gr.size
        · rw [hW9]; exact (t2 i fun q => hne' (by rw [q])).trans (hL8.gr.block i hi hne')
        · rw [hW9]; exact hL8.gr.drawn
        · rw [hW9]; show _ < (w8.heap.setIfInBounds _ _).size; rw [Array.size_setIfInBounds]; exact hL8.live b x q
        · rw [Array.toList_push]
          exact MapL.snoc (e := e) (g := { key := a8.tmps.getD 14 undef, val := a8.tmps.getD 15 undef, born := clock1 }) ⟨cy, Rep.keep (c := kk) hkk ry, sy⟩ ⟨cz, Rep.keep (c := vc) hkk rz, sz'⟩ (hM1.keep hkk)
      have hi9 : W9.heap[W0.heap.size]? = some (.mapIter (some bs) clock (seen.push f.born) clock) := by rw [hW9]; exact (t2 _ (by omega)).trans hi8
      have hm9 : W9.heap[bs]? = some (.map fs clock) := by rw [hW9]; exact (t2 _ hne).trans hm8
      refine ⟨⟨cur ++ [e], seen.push f.born, S8, hc4, hL9, h8.tm, q0, q5, hm9, hi9⟩, ?_⟩
      have h1 := hc4.size hlen
      unfold muC muK
      rw [hi9, hi2]
      simp only [Array.size_push] at h1 ⊢
      omega

def copyF {kk vc : K} (d s : List (El kk × El vc)) : Option (Unit × List (El kk × El vc) × List (El kk × El vc) × Unit) := bif d.isEmpty then some ((), (s, (s, ()))) else none

theorem copy_sound {f : FuncId} (hbody : fn.body.isNone = false) (hC : CtxOk P C) (B : CpyFacts P C f fn two kk vc mt tk tv) (hfl : kk.flat = true) :
    Sound P f { args := .tc (.mapr 0) (.tc (.mapr 1) .tn), objs := [.map kk vc, .map kk vc], ret := .tup .tn, outs := [.map kk vc, .map kk vc], F := fun x => copyF x.2.1 x.2.2.1 } := by
  intro w S m x y vals hy hargs hrel hbig
  obtain ⟨_, es0, es, _⟩ := x
  obtain ⟨v1, r1, e1, a1, v2, r2, e2, a2, ha⟩ := hargs
  have ha : r2 = [] := ha
  subst ha; subst e2; subst e1
  have hy : copyF es0 es = some y := hy
  unfold copyF at hy
  obtain ⟨hle, hy⟩ := bif_some hy
  have he0 : es0 = [] := by cases es0 with | nil => rfl | cons => cases hle
  subst he0
  cases hy
  obtain ⟨u0, hu0, g0, gf0, fd, cd, g1, ⟨-, ed, gp, gM⟩, gB⟩ := hrel.toStoRel.sto 0 _ rfl
  obtain ⟨u1, hu1, k0, kf0, fs, clock, k1, ⟨kn, es1, kp, kM⟩, kB⟩ := hrel.toStoRel.sto 1 _ rfl
  have gp := gp.eq_nil
  subst gp
  have hfd : fd.toList = [] := by
    cases hq : fd.toList with
    | nil => rfl
    | cons f r => rw [hq] at gM; exact gM.elim
  obtain ⟨u, k, q1, q2, q3⟩ := repV_mapr a1
  rw [hu0] at q1; cases q1
  rw [g0] at q3
  subst q3
  obtain ⟨u, k', q1, q2', q3⟩ := repV_mapr a2
  rw [hu1] at q1; cases q1
  rw [k0] at q3
  subst q3
  have hne : u1.b ≠ u0.b := fun q => hrel.toStoRel.apart 0 1 _ _ u0 u1 (by decide) rfl rfl hu0 hu1 u0.b 0 rfl q.symm
  have hnd : ∀ x, ¬ S u0.b x := fun x q => hrel.toStoRel.stab 0 _ u0 rfl hu0 u0.b x q rfl
  have hns : ∀ x, ¬ S u1.b x := fun x q => hrel.toStoRel.stab 1 _ u1 rfl hu1 u1.b x q rfl
  have hcall : (callFunc f [Value.map (some u0.b), .map (some u1.b)].toArray).run P w = .ok (.enter f [Value.map (some u0.b), .map (some u1.b)].toArray) w := by
    have g1 : fn.name ≠ "runtime.NumGoroutine" := by simpa using B.hname
    have g2 : fn.body ≠ none := fun e => by rw [e] at hbody; cases hbody
    simp [callFunc, Sem.run_bind, B.hf, g1, g2]
  rw [hcall]
  show Calls P f #[.map (some u0.b), .map (some u1.b)] w _
  refine ((callsIn_fr (lr := none) (n := 0)).1 (copy_in hC B hfl kM ((nodup_perm kp).2 kn) kB (fun b x q => hrel.live b x q) hnd k1 g1 hfd gB hne)).mono ?_
  rintro en w' ⟨rfl, cur, S', hp, hL⟩
  obtain ⟨fs', clock', l1, l2, l3⟩ := hL.mp
  have hlt0 : u0.b < w.heap.size := (Array.getElem?_eq_some_iff.1 g1).1
  have hlt1 : u1.b < w.heap.size := (Array.getElem?_eq_some_iff.1 k1).1
  have hk : Keeps w S w' S' := ⟨hL.more, fun b o v hs hv => by
    rw [World.cell?_of_block (a := ⟨b, o, none⟩) (hL.gr.block b (cell_lt hv) fun q => by cases q; exact hnd _ hs)]; exact hv⟩
  have hst : ∀ i o, objs0 (fillOs [ObSk.map kk vc, .map kk vc] (es, (es, ()))) i = some o → (i = 0 ∨ i = 1) ∧ o = .map kk vc es := fun i o ho => by
    match i, ho with
    | 0, ho => cases ho; exact ⟨.inl rfl, rfl⟩
    | 1, ho => cases ho; exact ⟨.inr rfl, rfl⟩
    | i + 2, ho => cases ho
  have hmu : ∀ i u, (i = 0 ∨ i = 1) → m i = some u → u.b < w.heap.size ∧ ∀ x, ¬ S u.b x := fun i u hi hu => by
    rcases hi with e | e <;> subst e
    · rw [hu0] at hu; cases hu; exact ⟨hlt0, hnd⟩
    · rw [hu1] at hu; cases hu; exact ⟨hlt1, hns⟩
  have hcl : ∀ b, b < w.heap.size → b ≠ u0.b → w'.heap[b]? = w.heap[b]? := fun b hb hb0 => hL.gr.block b hb fun q => hb0 (by cases q; rfl)
  refine ⟨_, rfl, S', m, .inr ⟨_, ⟨[], rfl, rfl⟩, by show Shut false _ _; simp [Shut]⟩, ⟨⟨fun i o ho => ?_, fun i j o p u v hij ho hp hu hv b x hx hy => ?_, fun i o u ho hu b x hs hx => ?_, hL.live⟩, fun t => .inl rfl, fun d hd hn => ⟨hbig _ (by omega), fun k _ => hbig _ (by omega)⟩, fun i hi => hbig i (by omega)⟩, fun i u _ q => q, ?_⟩
  · obtain ⟨hi, e⟩ := hst i o ho
    subst e
    rcases hi with e | e <;> subst e
    · exact ⟨u0, hu0, g0, gf0, fs', clock', l1, ⟨kn, cur, hp.trans kp, l2⟩, l3⟩
    · exact ⟨u1, hu1, k0, kf0, fs, clock, (hcl _ hlt1 hne).trans k1, ⟨kn, es1, kp, kM.keep hk⟩, kB⟩
  · obtain ⟨hi, e⟩ := hst i o ho
    subst e
    obtain ⟨hj, e⟩ := hst j p hp
    subst e
    have e1 : b = u.b := hx
    have e2 : b = v.b := hy
    rcases hi with e | e <;> rcases hj with e' | e' <;> subst e <;> subst e'
    · exact hij rfl
    · rw [hu0] at hu; cases hu; rw [hu1] at hv; cases hv; exact hne (e2.symm.trans e1)
    · rw [hu1] at hu; cases hu; rw [hu0] at hv; cases hv; exact hne (e1.symm.trans e2)
    · exact hij rfl
  · obtain ⟨hi, e⟩ := hst i o ho
    subst e
    obtain ⟨h1, h2⟩ := hmu i u hi hu
    have e1 : b = u.b := hx
    subst e1
    rcases hL.less _ x hs with q | q
    · exact h2 x q
    · omega
  · have hown : ∀ b x, OwnSt (objs0 (fillOs [ObSk.map kk vc, .map kk vc] (([] : List (El kk × El vc)), (es, ())))) m b x ↔ b = u0.b ∨ b = u1.b := fun b x => by
      constructor
      · rintro ⟨i, o, u, h1, h2, h3⟩
        match i, h1 with
        | 0, h1 => cases h1; rw [hu0] at h2; cases h2; exact .inl h3
        | 1, h1 => cases h1; rw [hu1] at h2; cases h2; exact .inr h3
        | i + 2, h1 => cases h1
      · rintro (e | e)
        · exact ⟨0, _, u0, rfl, hu0, e⟩
        · exact ⟨1, _, u1, rfl, hu1, e⟩
    refine ⟨hL.gr.os, ⟨hL.gr.tape, hL.gr.drawn⟩, hL.gr.output, hL.gr.size, fun i u q => (by cases q), hL.more, fun b x q => ?_, fun b x q => ?_, fun b x hb hx => ?_, fun b hb hx => hcl b hb fun q => hx 0 ((hown b 0).2 (.inl q))⟩
    · rcases hL.less b x q with q | q
      · exact .inl q
      · exact .inr (.inr q)
    · obtain ⟨i, o, u, h1, h2, h3⟩ := q
      obtain ⟨hi, e⟩ := hst i o h1
      subst e
      refine .inl ((hown b x).2 ?_)
      have e1 : b = u.b := h3
      rcases hi with e | e <;> subst e
      · rw [hu0] at h2; cases h2; exact .inl e1
      · rw [hu1] at h2; cases h2; exact .inr e1
    · have := hcl b hb fun q => hx ((hown b x).2 (.inl q))
      exact ⟨World.cell?_of_block (a := ⟨b, x, none⟩) this, World.frozen?_of_block (a := ⟨b, x, none⟩) this⟩
end
end Go.Proofs.D
