/- A range over the All of a table that is nil: no round; a law that asks a nil table. -/
import Derived.Test.YtlnnghmfncjbiaaDSame
set_option linter.unusedVariables false
set_option linter.unusedSimpArgs false
namespace Go.Proofs.D
open Go.RowKit

def nilRnd (f : Func) : Code := .block 1 (.seq (.region 5 (rops (bodyOf f) 5) false) .ret)
def nilBody (f : Func) : Code := .seq (.region 0 (rops (bodyOf f) 0) false) (.seq (.region 1 (rops (bodyOf f) 1) false) (.seq (.seq (.region 2 (rops (bodyOf f) 2) false) (.seq (.region 3 (rops (bodyOf f) 3) false) (.cond (.tmp 10) (.seq (.region 4 (rops (bodyOf f) 4) false) (.block 0 (.rangeFunc (.tmp 11) #[12, 13] .skip (nilRnd f)))) .skip))) (.seq (.region 6 (rops (bodyOf f) 6) false) (.seq (.region 7 (rops (bodyOf f) 7) false) (.seq (.region 8 (rops (bodyOf f) 8) false) .ret)))))
def nlO (kk : K) (k : El kk) : List (Nat × Obj) := [(0, .cell kk false (.val kk k)), (1, .cell .bool false (.val .bool false)), (2, .cell (.ref 0) false (.nilr 0))]
def nilE : List (Nat × T) := [(1, .ptr 0 []), (2, .ptr 1 []), (3, .nilr 0)]

structure AnilFacts (P : Program) (C : Ctx) (af : FuncId) (fn : Func) (kk : K) (le : El kk → El kk → Bool) : Prop where
  hf : P.funcs[af]? = some fn
  hname : (fn.name == "runtime.NumGoroutine") = false
  hb : fn.body = some (allBody fn)
  hres : fn.results = #[]
  hn : fn.ntmps = C.n
  h28 : 28 < C.n
  q0 : ∀ (k : El kk), evalReg C false (rops (bodyOf fn) 0).toList (mkS [(1, .ptr 2 [])] (nlO kk k) []) (fun sF => some (facts [3] [0, 1, 2, 1009000, 1009001] sF)) = some (told [(3, .ptr 1009000 [])] [(0, .cell kk false (.val kk k)), (1, .cell .bool false (.val .bool false)), (2, .cell (.ref 0) false (.nilr 0)), (1009000, tabO 1009001), (1009001, .map kk vI [])] [9])
  q1 : ∀ (k : El kk), evalReg C false (rops (bodyOf fn) 1).toList (mkS [(3, .ptr 1009000 [])] [(0, .cell kk false (.val kk k)), (1, .cell .bool false (.val .bool false)), (2, .cell (.ref 0) false (.nilr 0)), (1009000, tabO 1009001), (1009001, .map kk vI [])] [9]) (fun sF => some (facts [12, 13] [0, 1, 2] sF)) =
    (tabKeysF kk vI le []).bind fun y => some (told [(12, .val vI (y.1.length : Int)), (13, .val vI 0)] (nlO kk k) [11, 9])
  q2 : ∀ (k : El kk) (n : Int), evalReg C false (rops (bodyOf fn) 2).toList (mkS [(12, .val vI n), (13, .val vI 0)] (nlO kk k) [11, 9]) (fun sF => some (facts [14] [0, 1, 2] sF)) = some (told [(14, .val .bool (decide (0 < n)))] (nlO kk k) [11, 9])

structure NilFacts (P : Program) (C : Ctx) (f : FuncId) (fn : Func) (af : FuncId) (kk : K) (W : Option Bool) : Prop where
  hf : P.funcs[f]? = some fn
  hname : (fn.name == "runtime.NumGoroutine") = false
  hb : fn.body = some (nilBody fn)
  hn : fn.ntmps = C.n
  h50 : 50 < C.n
  q0 : ∀ (k : El kk), evalReg C false (rops (bodyOf fn) 0).toList (mkS [(0, .val kk k)] [] []) (fun sF => some (facts [1, 2] [1001, 1002] sF)) = some (told [(1, .ptr 1001 []), (2, .ptr 1002 [])] [(1001, .cell kk false (.val kk k)), (1002, .cell .bool false (.val .bool false))] [2, 1])
  q1 : ∀ (k : El kk), evalReg C false (rops (bodyOf fn) 1).toList (mkS [(1, .ptr 1001 []), (2, .ptr 1002 [])] [(1001, .cell kk false (.val kk k)), (1002, .cell .bool false (.val .bool false))] [2, 1]) (fun sF => some (facts [1, 2, 3] [1001, 1002] sF)) = some (told [(1, .ptr 1001 []), (2, .ptr 1002 []), (3, .nilr 0)] [(1001, .cell kk false (.val kk k)), (1002, .cell .bool false (.val .bool false))] [2, 1])
  q2 : ∀ (k : El kk), evalReg C false (rops (bodyOf fn) 2).toList (mkS [(1, .ptr 1001 []), (2, .ptr 1002 []), (3, .nilr 0)] [(1001, .cell kk false (.val kk k)), (1002, .cell .bool false (.val .bool false))] [2, 1]) (fun sF => some (facts [1, 2, 3, 4] [1001, 1002, 1008000] sF)) = some (told [(1, .ptr 1001 []), (2, .ptr 1002 []), (3, .nilr 0), (4, .clo af (.tc (.ptr 1008000 []) .tn))] [(1001, .cell kk false (.val kk k)), (1002, .cell .bool false (.val .bool false)), (1008000, .cell (.ref 0) false (.nilr 0))] [8, 2, 1])
  q3 : ∀ (k : El kk), evalReg C false (rops (bodyOf fn) 3).toList (mkS [(1, .ptr 1001 []), (2, .ptr 1002 []), (3, .nilr 0), (4, .clo af (.tc (.ptr 1008000 []) .tn))] [(1001, .cell kk false (.val kk k)), (1002, .cell .bool false (.val .bool false)), (1008000, .cell (.ref 0) false (.nilr 0))] [8, 2, 1]) (fun sF => some (facts [1, 2, 3, 4, 10] [1001, 1002, 1008000] sF)) = some (told [(1, .ptr 1001 []), (2, .ptr 1002 []), (3, .nilr 0), (4, .clo af (.tc (.ptr 1008000 []) .tn)), (10, .val .bool true)] [(1001, .cell kk false (.val kk k)), (1002, .cell .bool false (.val .bool false)), (1008000, .cell (.ref 0) false (.nilr 0))] [8, 2, 1])
  q4 : ∀ (k : El kk), evalReg C false (rops (bodyOf fn) 4).toList (mkS [(1, .ptr 1001 []), (2, .ptr 1002 []), (3, .nilr 0), (4, .clo af (.tc (.ptr 1008000 []) .tn)), (10, .val .bool true)] [(1001, .cell kk false (.val kk k)), (1002, .cell .bool false (.val .bool false)), (1008000, .cell (.ref 0) false (.nilr 0))] [8, 2, 1]) (fun sF => some (facts [1, 2, 3, 11] [1001, 1002, 1008000] sF)) = some (told [(1, .ptr 1001 []), (2, .ptr 1002 []), (3, .nilr 0), (11, .clo af (.tc (.ptr 1008000 []) .tn))] [(1001, .cell kk false (.val kk k)), (1002, .cell .bool false (.val .bool false)), (1008000, .cell (.ref 0) false (.nilr 0))] [8, 2, 1])
  q6 : ∀ (k : El kk), evalReg C false (rops (bodyOf fn) 6).toList (mkS nilE (nlO kk k) []) (fun sF => some (facts [1, 2, 3] [0, 1, 2] sF)) = some (told nilE (nlO kk k) [16])
  q7 : ∀ (k : El kk), evalReg C false (rops (bodyOf fn) 7).toList (mkS nilE (nlO kk k) [16]) (fun sF => some (facts [1, 2, 3, 6] [0, 1, 2] sF)) = some (told [(1, .ptr 0 []), (2, .ptr 1 []), (3, .nilr 0), (6, .val .bool false)] (nlO kk k) [20, 16])
  q8 : ∀ (k : El kk), evalReg C false (rops (bodyOf fn) 8).toList (mkS [(1, .ptr 0 []), (2, .ptr 1 []), (3, .nilr 0), (6, .val .bool false)] (nlO kk k) [20, 16]) (fun sF => some (facts [2] [1] sF)) = W.bind fun b => some (told [(2, .ptr 1 [])] [(1, .cell .bool false (.val .bool b))] [49, 45, 44, 38, 33, 28, 20, 16])
  e8 : ∀ (b : Bool) (d : List Nat), (resT C (mkS [(2, .ptr 1 [])] [(1, .cell .bool false (.val .bool b))] d) fn.results.toList).map tup1 = some (.val .bool b)

section
variable {P : Program} {C C1 Ca : Ctx} {fn fa : Func} {f af : FuncId} {kk : K} {le : El kk → El kk → Bool} {a b : Act} {w : World} {S : Cells} {m : Nat → Option MB} {O0 : Cells} {w0 : World} {S0 : Cells} {m0 : Nat → Option MB} {E E' : List (Nat × T)} {d : List Nat}

def mNl (m : Nat → Option MB) : Nat → Option MB := fun i => match i with | 0 => m 0 | 1 => m 1 | 2 => m 2 | _ => none
theorem mNl_big : ∀ i, 1000 ≤ i → mNl m i = none := fun i hi => by
  obtain ⟨j, rfl⟩ : ∃ j, i = j + 3 := ⟨i - 3, by omega⟩
  rfl
theorem nlO_re {k : El kk} {a' : Act} (h : At C 0 O0 w0 S0 m0 (mkS E (nlO kk k) d) a w S m) (hT : TmOk C1 a') (henv : ∀ p ∈ E', RepV w S (mNl m) p.2 (a'.tmps.getD p.1 undef)) : At C1 0 O0 w0 S0 m0 (mkS E' (nlO kk k) []) a' w S (mNl m) := by
  refine h.renumC (fun i => i) (ks := [0, 1, 2]) rfl (by decide) (fun p hp => ?_) hT henv mNl_big
  simp only [nlO, List.mem_cons, List.not_mem_nil, or_false] at hp
  rcases hp with rfl | rfl | rfl <;> exact ⟨_, rfl, rfl, fun u h => h, fun u b x h => h⟩

theorem anil_in (hCa : CtxOk P Ca) (A : AnilFacts P Ca af fa kk le) {k : El kk} {L D : Nat} {lo : Loop} {bx y : Value} (hb : TmOk C b)
    (h : At C 0 O0 w0 S0 m0 (mkS nilE (nlO kk k) []) b w S m) (hbx : RepV w S m (.ptr 2 []) bx)
    (hL : w.heap[L]? = some (.loop lo)) (hD : w.heap[D]? = some (.deferred (some []))) :
    CallsIn (Fr none) 0 P af #[y, bx] w fun en W' => (∃ v, en = .returned v) ∧ ∃ S' m', At C 0 O0 w0 S0 m0 (mkS nilE (nlO kk k) []) b W' S' m' ∧ W'.heap[L]? = some (.loop lo) ∧ W'.heap[D]? = some (.deferred (some [])) := by
  refine callsIn_of_wp A.hf A.hb trivial ?_ rfl
  have h28 := A.h28
  obtain ⟨a0, ha0⟩ : ∃ a0 : Act, a0 = { tmps := #[y, bx] ++ Array.replicate (fa.ntmps - (#[y, bx] : Array Value).size) undef, defers := [] } := ⟨_, rfl⟩
  rw [← ha0]
  have hT0 : TmOk Ca a0 := by
    rw [ha0]
    refine ⟨?_, rfl⟩
    have := A.hn
    simp; omega
  have hs1 : a0.tmps.getD 1 undef = bx := by rw [ha0]; simp [Array.getElem?_append]
  have h0 : At Ca 0 O0 w0 S0 m0 (mkS [(1, .ptr 2 [])] (nlO kk k) []) a0 w S (mNl m) := nlO_re h hT0 fun p hp => by
    rw [List.mem_singleton] at hp; subst hp
    show RepV w S (mNl m) (.ptr 2 []) (a0.tmps.getD 1 undef)
    rw [hs1]; exact hbx
  have c1 : RepV w S (mNl m) (.ptr 0 []) (b.tmps.getD 1 undef) := (h.slot 1 : RepV w S m (.ptr 0 []) _)
  have c2 : RepV w S (mNl m) (.ptr 1 []) (b.tmps.getD 2 undef) := (h.slot 2 : RepV w S m (.ptr 1 []) _)
  have c3 : RepV w S (mNl m) (.nilr 0) (b.tmps.getD 3 undef) := (h.slot 3 : RepV w S m (.nilr 0) _)
  rw [← withD_self hT0.2]
  refine wpIn_seq (At.regionI hCa rfl h0 (A.q0 k) rfl rfl fun a1 w1 S1 m1 h1 g1 d1 x1 _ => ?_)
  show Code.wpIn _ _ _ _ _ _ _
  have q1 := A.q1 k
  have hkv : tabKeysF kk vI le [] = some ([], (((), ()), ([], ()))) := by
    unfold tabKeysF
    rw [Nat.ble_eq_true_of_le (by simp)]; simp
  rw [hkv] at q1
  refine wpIn_seq (At.regionI (E' := [(12, .val vI 0), (13, .val vI 0)]) (O' := nlO kk k) (d' := [11, 9]) hCa rfl h1 q1 rfl rfl fun a2 w2 S2 m2 h2 g2 d2 x2 _ => ?_)
  show Code.wpIn _ _ _ _ _ _ _
  have hL2 := h1.blk x2 (h0.blk x1 hL rfl rfl) rfl rfl
  have hD2 := h1.blk x2 (h0.blk x1 hD rfl rfl) rfl rfl
  rw [withD_self h2.tm.2]
  refine wpIn_block (wpIn_loop (fun a w => a = a2 ∧ w = w2) (fun _ _ => 0) ⟨rfl, rfl⟩ ?_)
  rintro a3 w3 ⟨rfl, rfl⟩
  rw [← withD_self h2.tm.2]
  refine wpIn_seq (At.regionI hCa rfl h2 (A.q2 k 0) rfl rfl fun a4 w4 S4 m4 h4 g4 d4 x4 _ => ?_)
  show Code.wpIn _ _ _ _ _ _ _
  refine wpIn_seq (wpIn_cond_env (b := decide ((0 : Int) < 0)) h4 rfl (fun q => by simp at q) (fun _ => wpIn_exit ?_))
  simp only [Exit.then, Exit.inBlock, if_true]
  have kk4 := (g1.trans g2).trans g4
  have mm4 : ∀ i u, mNl m i = some u → m4 i = some u := fun i u q => d4 i u (d2 i u (d1 i u q))
  refine ⟨rfl, _, results_none A.hres _ _ _, ⟨_, rfl⟩, S4, mNl m4, nlO_re h4 hb fun p hp => ?_, h2.blk x4 hL2 rfl rfl, h2.blk x4 hD2 rfl rfl⟩
  simp only [nilE, List.mem_cons, List.not_mem_nil, or_false] at hp
  rcases hp with rfl | rfl | rfl
  · exact (c1.keep kk4 mm4 : RepV w4 S4 m4 (.ptr 0 []) _)
  · exact (c2.keep kk4 mm4 : RepV w4 S4 m4 (.ptr 1 []) _)
  · exact (c3.keep kk4 mm4 : RepV w4 S4 m4 (.nilr 0) _)

def mNr (m : Nat → Option MB) : Nat → Option MB := fun i => match i with | 0 => m 1001 | 1 => m 1002 | 2 => m 1008000 | _ => none

theorem nil_sound {W : Option Bool} (hC : CtxOk P C) (hCa : CtxOk P Ca) (hm : P.follows .mixedOrders = true) (F : NilFacts P C f fn af kk W) (A : AnilFacts P Ca af fa kk le) :
    Sound P f { args := .tc (.val kk) .tn, objs := [], ret := .val .bool, outs := [], F := fun _ => W } := by
  intro w S m x y vals hy hargs hrel hbig
  obtain ⟨⟨k, _⟩, u1⟩ := x
  obtain ⟨v1, r1, e1, a1, ha⟩ := hargs
  have ha : r1 = [] := ha
  subst ha; subst e1
  have hy : W = some y := hy
  have hcall : (callFunc f [v1].toArray).run P w = .ok (.enter f [v1].toArray) w := by
    have g1 : fn.name ≠ "runtime.NumGoroutine" := by simpa using F.hname
    have g2 : fn.body ≠ none := fun e => by rw [F.hb] at e; cases e
    simp [callFunc, Sem.run_bind, F.hf, g1, g2]
  rw [hcall]
  show Calls P f #[v1] w _
  have hO : OwnSt (objs0 (fillOs ([] : List ObSk) u1)) m = fun _ _ => False := by
    funext b x
    exact propext ⟨(fun ⟨i, o, u, q, _⟩ => by cases q), fun q => q.elim⟩
  refine (callsIn_fr (lr := none) (n := 0)).1 (callsIn_of_wp_marks F.hf F.hb trivial ?_ rfl)
  have h50 := F.h50
  obtain ⟨a0, ha0⟩ : ∃ a0 : Act, a0 = { tmps := #[v1] ++ Array.replicate (fn.ntmps - (#[v1] : Array Value).size) undef, defers := [] } := ⟨_, rfl⟩
  rw [← ha0]
  have hT0 : TmOk C a0 := by
    rw [ha0]
    refine ⟨?_, rfl⟩
    have := F.hn
    simp; omega
  have hs0 : a0.tmps.getD 0 undef = v1 := by rw [ha0]; simp [Array.getElem?_append]
  have h0 := At.bare (C := C) hrel.live hT0 (E := [(0, .val kk k)]) (fun p hp => by
    rw [List.mem_singleton] at hp; subst hp
    rw [hs0]
    rcases a1 with q | ⟨cs, q1, q2⟩
    · cases q
    · exact .inr ⟨cs, q1, q2⟩)
  rw [← withD_self hT0.2]
  refine wpIn_seq (At.regionA (lr := none) (dr := false) hC hm rfl h0 (F.q0 k) rfl rfl fun b1 w1 S1 m1 h1 c1 d1 x1 => ?_)
  show Code.wpIn _ _ _ _ _ _ _
  refine wpIn_seq (At.regionA (lr := none) (dr := false) hC hm rfl h1 (F.q1 k) rfl rfl fun b2 w2 S2 m2 h2 c2 d2 x2 => ?_)
  show Code.wpIn _ _ _ _ _ _ _
  refine wpIn_seq (wpIn_seq (At.regionA (lr := none) (dr := false) hC hm rfl h2 (F.q2 k) rfl rfl fun b3 w3 S3 m3 h3 c3 d3 x3 => ?_))
  show Code.wpIn _ _ _ _ _ _ _
  refine wpIn_seq (At.regionA (lr := none) (dr := false) hC hm rfl h3 (F.q3 k) rfl rfl fun b4 w4 S4 m4 h4 c4 d4 x4 => ?_)
  show Code.wpIn _ _ _ _ _ _ _
  refine wpIn_cond_env (b := true) h4 rfl (fun _ => ?_) (fun q => by cases q)
  refine wpIn_seq (At.regionA (lr := none) (dr := false) hC hm rfl h4 (F.q4 k) rfl rfl fun b8 w8 S8 m8 h8 c8 d8 x8 => ?_)
  show Code.wpIn _ _ _ _ _ _ _
  have h9 : At C 0 (fun _ _ => False) w S (fun _ => none) (mkS nilE (nlO kk k) []) b8 w8 S8 (mNr m8) := by
    refine h8.renumC (fun i => match i with | 0 => 1001 | 1 => 1002 | 2 => 1008000 | k => k) (ks := [0, 1, 2]) rfl (by decide) (fun p hp => ?_) h8.tm (fun p hp => ?_) (fun i hi => ?_)
    · simp only [nlO, List.mem_cons, List.not_mem_nil, or_false] at hp
      rcases hp with rfl | rfl | rfl
      · exact ⟨.cell kk false (.val kk k), rfl, rfl, fun u h => h, fun u b x h => h⟩
      · exact ⟨.cell .bool false (.val .bool false), rfl, rfl, fun u h => h, fun u b x h => h⟩
      · exact ⟨.cell (.ref 0) false (.nilr 0), rfl, rfl, fun u h => h, fun u b x h => h⟩
    · simp only [nilE, List.mem_cons, List.not_mem_nil, or_false] at hp
      rcases hp with rfl | rfl | rfl
      · exact (h8.slot 1 : RepV w8 S8 m8 (.ptr 1001 []) _)
      · exact (h8.slot 2 : RepV w8 S8 m8 (.ptr 1002 []) _)
      · exact (h8.slot 3 : RepV w8 S8 m8 (.nilr 0) _)
    · obtain ⟨j, rfl⟩ : ∃ j, i = j + 3 := ⟨i - 3, by omega⟩
      rfl
  obtain ⟨p, hp11, hbx⟩ : ∃ p, b8.tmps.getD 11 undef = .func (.func af) #[] #[p] ∧ RepV w8 S8 (mNr m8) (.ptr 2 []) p := by
    obtain ⟨vs, q1, q2⟩ := repV_clo (h8.slot 11 : RepV w8 S8 m8 (.clo af (.tc (.ptr 1008000 []) .tn)) _)
    obtain ⟨p, r, e1, e2, e3⟩ := q1
    have e3 : r = [] := e3
    subst e3; subst e1
    exact ⟨p, q2, e2⟩
  refine wpIn_block (wpIn_rangeFunc fun fn' _ => ?_)
  obtain ⟨rec, hrec⟩ : ∃ rec : Loop, rec = { state := .ready, pending := none, fn := fn', tmps := b8.tmps, params := #[12, 13], assign := .skip, body := nilRnd fn, defers := w8.heap.size } := ⟨_, rfl⟩
  obtain ⟨W1, hW1⟩ : ∃ W1, (w8.alloc (.deferred (some []))).alloc (.loop rec) = W1 := ⟨_, rfl⟩
  have hL1 : W1.heap[w8.heap.size + 1]? = some (.loop rec) := by
    rw [← hW1]; have := World.alloc_heap_new (w8.alloc (.deferred (some []))) (.loop rec); rwa [World.size_alloc] at this
  have hK1 : W1.heap[w8.heap.size]? = some (.deferred (some [])) := by
    rw [← hW1]; exact (Below.heap_alloc _ _ _ (by simp)).trans (World.alloc_heap_new w8 _)
  have hg1 : Gr w8 W1 none := by
    rw [← hW1]
    have g1 := World.grownBy_alloc w8 (.deferred (some [])) none
    have g2 := World.grownBy_alloc (w8.alloc (.deferred (some []))) (.loop rec) none
    exact ⟨⟨g2.os.trans g1.os, g2.tape.trans g1.tape, g2.output.trans g1.output, Nat.le_trans g1.size g2.size, fun b hb q => (g2.block b (Nat.lt_of_lt_of_le hb g1.size) q).trans (g1.block b hb q)⟩, Nat.le_refl _⟩
  refine ⟨w8.heap.size + 1, [{ target := .collected w8.heap.size, args := #[] }], W1, { target := .fn (.func af) #[p], args := #[.func (.yield (w8.heap.size + 1)) #[] #[]] }, W1, af, #[.func (.yield (w8.heap.size + 1)) #[] #[], p], W1, ?_, ?_, fun _ _ => trivial, ?_, (fun q => by cases q), ?_⟩
  · rw [← hW1, hrec]; exact run_enterLoop_outer _ _ _ _ _
  · have e28 : (withD [] b8).tmps[11]?.getD undef = .func (.func af) #[] #[p] := by simpa [withD, Array.getD_eq_getD_getElem?] using hp11
    simp [resolve, e28, Deferred.ofValue, Act.eval]
  · have g1 : fa.name ≠ "runtime.NumGoroutine" := by simpa using A.hname
    have g2 : fa.body ≠ none := fun e => by rw [A.hb] at e; cases e
    simp [invoke, callFunc, Sem.run_bind, A.hf, g1, g2]
  have hwD : w.heap.size ≤ w8.heap.size := h9.ext.size
  have hkg := grown_keeps (S := S8) hg1
  refine (anil_in hCa A h8.tm (h9.grownW hg1 (fun r e => by cases e)) (hbx.keep hkg fun _ _ q => q) hL1 hK1).mono ?_
  rintro en W2 ⟨⟨v, rfl⟩, S10, m10, h10, hL10, hD10⟩
  have hend : (Instr.endLoop (w8.heap.size + 1)).run P W2 = .ok none (W2.putObj (w8.heap.size + 1) (.loop { rec with state := .exhausted })) := (run_endLoop (P := P) hL10 (by rw [hrec]; simp)).trans (by rw [hrec])
  refine ⟨none, _, hend, ?_⟩
  have h11 := h10.grownW (Gr.putObj W2 (w8.heap.size + 1) (.loop { rec with state := .exhausted })) (fun r e => by cases e; exact ⟨by omega, _, hL10, rfl, rfl⟩)
  have hD11 : (W2.putObj (w8.heap.size + 1) (.loop { rec with state := .exhausted })).heap[w8.heap.size]? = some (.deferred (some [])) := (World.putObj_heap_other (by omega)).trans hD10
  generalize W2.putObj (w8.heap.size + 1) (.loop { rec with state := .exhausted }) = w11 at h11 hD11 ⊢
  show Code.wpIn _ _ _ _ _ (withD [{ target := .collected w8.heap.size, args := #[] }] b8) _
  refine wpIn_seq (At.regionA (lr := none) (dr := false) hC hm rfl h11 (F.q6 k) rfl rfl fun b12 w12 S12 m12 h12 c12 d12 x12 => ?_)
  show Code.wpIn _ _ _ _ _ _ _
  have hD12 := h11.blk x12 hD11 rfl rfl
  refine wpIn_seq (At.regionA (lr := none) (dr := false) hC hm rfl h12 (F.q7 k) rfl rfl fun b13 w13 S13 m13 h13 c13 d13 x13 => ?_)
  show Code.wpIn _ _ _ _ _ _ _
  have hD13 := h12.blk x13 hD12 rfl rfl
  have q8 := F.q8 k
  rw [hy] at q8
  refine wpIn_seq (At.regionA (lr := none) (dr := false) (E' := [(2, .ptr 1 [])]) (O' := [(1, .cell .bool false (.val .bool y))]) (d' := [49, 45, 44, 38, 33, 28, 20, 16]) hC hm rfl h13 q8 rfl rfl fun b14 w14 S14 m14 h14 c14 d14 x14 => ?_)
  show Code.wpIn _ _ _ _ _ _ _
  have hD14 := h13.blk x14 hD13 rfl rfl
  refine wpIn_ret ?_
  show LeavesInM (Fr none) 0 P fn b14.tmps _ [{ target := .collected w8.heap.size, args := #[] }] .returning w14
  refine ⟨by simp, .inl ⟨w8.heap.size, _, rfl, run_takeDeferred hD14, ?_⟩⟩
  have h15 := h14.grownW (Gr.putObj w14 w8.heap.size (.deferred none)) (fun r e => by cases e; exact ⟨hwD, _, hD14, rfl, rfl⟩)
  obtain ⟨l, l1, l2⟩ := Option.map_eq_some_iff.1 (F.e8 y [49, 45, 44, 38, 33, 28, 20, 16])
  obtain ⟨v', g1, g2⟩ := results_ok hC h15.rel l1
  rw [l2] at g2
  have hF : At { ty := fun _ => none, sigs := fun _ => [], n := 0, mp := fun _ => none } 0 (fun _ _ => False) w S (fun _ => none) (mkS [] [] []) { tmps := #[], defers := [] } (w14.putObj w8.heap.size (.deferred none)) S14 (fun _ => none) :=
    h15.renumC (fun i => i) (ks := []) rfl (by decide) (fun p hp => by cases hp) ⟨rfl, rfl⟩ (fun p hp => by cases hp) fun _ _ => rfl
  have hsto : (mkS [] [] []).sto = objs0 (fillOs ([] : List ObSk) ()) := by
    funext i
    rfl
  refine ⟨v', g1, v', rfl, S14, fun _ => none, g2, ⟨⟨fun i o ho => hF.rel.sto i o (by rw [hsto]; exact ho), fun i j o p u v hij ho hp => hF.rel.apart i j o p u v hij (by rw [hsto]; exact ho) (by rw [hsto]; exact hp), fun i o u ho => hF.rel.stab i o u (by rw [hsto]; exact ho), hF.rel.live⟩, fun t => .inl rfl, fun d hd hn => ⟨rfl, fun k _ => rfl⟩, fun i hi => rfl⟩, fun i u hi q => absurd hi (Nat.not_lt_zero _), ?_⟩
  rw [hO]
  have := hF.ext
  rw [hsto] at this
  exact this
end
end Go.Proofs.D
