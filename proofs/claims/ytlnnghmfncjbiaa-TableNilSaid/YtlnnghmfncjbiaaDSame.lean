/- Whether a table has just these rows: a range over its All, as a contract. -/
import Derived.Test.YtlnnghmfncjbiaaDAlw
set_option linter.unusedVariables false
set_option linter.unusedSimpArgs false
namespace Go.Proofs.D
open Go.RowKit

section
variable {P : Program} {C C1 Ca : Ctx} {fn fa : Func} {f af : FuncId} {kk : K} {le : El kk → El kk → Bool} {ts : Array TypeId}

def mS2 (m : Nat → Option MB) : Nat → Option MB := fun i => match i with | 0 => m 0 | 1 => m 1 | _ => none
theorem mS2_big {m : Nat → Option MB} : ∀ i, 1000 ≤ i → mS2 m i = none := fun i hi => by
  obtain ⟨j, rfl⟩ : ∃ j, i = j + 2 := ⟨i - 2, by omega⟩
  rfl
def mSR (m : Nat → Option MB) : Nat → Option MB := fun i => match i with | 0 => m 0 | 1 => m 1 | 2 => m 1003 | 3 => m 1004 | 4 => m 1005 | 5 => m 1007 | 6 => m 1025002 | _ => none

theorem same_sound (hC : CtxOk P C) (hCa : CtxOk P Ca) (hm : P.follows .mixedOrders = true) (F : SameFacts P C f fn af kk le) (A : AllFacts P Ca af fa kk le ts) (hfl : kk.flat = true) :
    Sound P f { args := .tc (.ptr 0) (.tc (.val (.slice (rwK kk))) .tn), objs := [tabSk 1, .map kk vI], ret := .val .bool, outs := [tabSk 1, .map kk vI], F := fun x => sameF le x.1.2.1 x.2.2.1 } := by
  intro w S m x y vals hy hargs hrel hbig
  obtain ⟨⟨_, rows, _⟩, ⟨z1, z2⟩, es, _⟩ := x
  obtain ⟨v1, r1, e1, a1, v2, r2, e2, a2, ha⟩ := hargs
  have ha : r2 = [] := ha
  subst ha; subst e2; subst e1
  have hy : sameF le rows es = some y := hy
  unfold sameF at hy
  obtain ⟨hb, hy⟩ := bif_some hy
  simp only [Bool.and_eq_true] at hb
  obtain ⟨hrw, hle⟩ := hb
  have hle := Nat.le_of_ble_eq_true hle
  have hrw : rows = rowsD le es := eqE_eq (c := .arr 0 (rwK kk)) (by show (kk.flat && _) = true; rw [hfl]; rfl) hrw
  cases hy
  obtain ⟨ks, hks⟩ : ∃ ks, ks = (es.map (·.1)).mergeSort le := ⟨_, rfl⟩
  have hkl : ks.length = es.length := by rw [hks, List.length_mergeSort, List.length_map]
  have hrl : rows.length = ks.length := by rw [hrw, hks]; unfold rowsD; rw [List.length_map]
  have hcall : (callFunc f [v1, v2].toArray).run P w = .ok (.enter f [v1, v2].toArray) w := by
    have g1 : fn.name ≠ "runtime.NumGoroutine" := by simpa using F.hname
    have g2 : fn.body ≠ none := fun e => by rw [F.hb] at e; cases e
    simp [callFunc, Sem.run_bind, F.hf, g1, g2]
  rw [hcall]
  show Calls P f #[v1, v2] w _
  obtain ⟨O0, hO0⟩ : ∃ O0, O0 = OwnSt (objs0 (fillOs [tabSk 1, .map kk vI] ((z1, z2), (es, ())))) m := ⟨_, rfl⟩
  have hA : At { ty := fun _ => none, sigs := fun _ => [], n := 0, mp := fun _ => none } 0 O0 w S m { env := fun _ => .any 0, sto := objs0 (fillOs [tabSk 1, .map kk vI] ((z1, z2), (es, ()))), done := fun _ => false } { tmps := #[], defers := [] } w S m :=
    ⟨hrel, ⟨rfl, rfl⟩, by rw [hO0]; exact Ext.refl .., fun i u hi => absurd hi (Nat.not_lt_zero i)⟩
  refine (callsIn_fr (lr := none) (n := 0)).1 (callsIn_of_wp_marks F.hf F.hb trivial ?_ rfl)
  have h67 := F.h67
  obtain ⟨a0, ha0⟩ : ∃ a0 : Act, a0 = { tmps := #[v1, v2] ++ Array.replicate (fn.ntmps - (#[v1, v2] : Array Value).size) undef, defers := [] } := ⟨_, rfl⟩
  rw [← ha0]
  have hT0 : TmOk C a0 := by
    rw [ha0]
    refine ⟨?_, rfl⟩
    have := F.hn
    simp; omega
  have hs0 : a0.tmps.getD 0 undef = v1 := by rw [ha0]; simp [Array.getElem?_append]
  have hs1 : a0.tmps.getD 1 undef = v2 := by rw [ha0]; simp [Array.getElem?_append]
  have h0 : At C 0 O0 w S m (mkS [(0, .ptr 0 []), (1, .val (.slice (rwK kk)) rows)] [(0, tabO 1), (1, .map kk vI es)] []) a0 w S (mS2 m) := by
    refine hA.renumC (fun i => i) (ks := [0, 1]) rfl (by decide) (fun p hp => ?_) hT0 (fun p hp => ?_) mS2_big
    · simp only [List.mem_cons, List.not_mem_nil, or_false] at hp
      rcases hp with rfl | rfl
      · exact ⟨tabO 1, rfl, rfl, fun u h => h, fun u b x h => h⟩
      · exact ⟨.map kk vI es, rfl, rfl, fun u h => h, fun u b x h => h⟩
    · simp only [List.mem_cons, List.not_mem_nil, or_false] at hp
      rcases hp with rfl | rfl
      · show RepV w S (mS2 m) (.ptr 0 []) (a0.tmps.getD 0 undef)
        rw [hs0]; exact a1
      · show RepV w S (mS2 m) (.val (.slice (rwK kk)) rows) (a0.tmps.getD 1 undef)
        rw [hs1]; exact a2
  have hkv : tabKeysF kk vI le es = some (ks, (((), ()), (es, ()))) := by
    unfold tabKeysF
    rw [Nat.ble_eq_true_of_le (by omega), ← hks]; rfl
  rw [← withD_self hT0.2]
  refine wpIn_seq (At.regionA (lr := none) (dr := false) hC hm rfl h0 (F.q0 es rows) rfl rfl fun b1 w1 S1 m1 h1 c1 d1 x1 => ?_)
  show Code.wpIn _ _ _ _ _ _ _
  have q1 := F.q1 es rows
  rw [hkv] at q1
  refine wpIn_seq (At.regionA (lr := none) (dr := false) (E' := [(0, .ptr 0 []), (3, .ptr 1003 []), (4, .ptr 1004 []), (5, .ptr 1005 [])]) (O' := [(0, tabO 1), (1, .map kk vI es), (1003, .cell (.slice (rwK kk)) false (.val (.slice (rwK kk)) rows)), (1004, .cell .bool false (.val .bool false)), (1005, .cell (.slice kk) false (.val (.slice kk) ks))]) (d' := [5, 11, 4, 3]) hC hm rfl h1 q1 rfl rfl fun b2 w2 S2 m2 h2 c2 d2 x2 => ?_)
  show Code.wpIn _ _ _ _ _ _ _
  have q2 := F.q2 es rows ks
  have en1 : ((es.length : Int) != (rows.length : Int)) = false := by rw [hrl, hkl]; simp
  have en2 : ((ks.length : Int) != (rows.length : Int)) = false := by rw [hrl]; simp
  rw [en1, en2] at q2
  simp only [cond_false] at q2
  refine wpIn_seq (wpIn_seq (At.regionA (lr := none) (dr := true) hC hm rfl h2 q2 rfl rfl fun b3 w3 S3 m3 h3 c3 d3 x3 => ?_))
  show Code.wpIn _ _ _ _ _ _ _
  refine wpIn_cond_env (b := false) h3 rfl (fun q => by cases q) (fun _ => wpIn_skip ?_)
  show Code.wpIn _ _ _ _ _ _ _
  refine wpIn_seq (At.regionA (lr := none) (dr := false) hC hm rfl h3 (F.q4 es rows ks false) rfl rfl fun b4 w4 S4 m4 h4 c4 d4 x4 => ?_)
  show Code.wpIn _ _ _ _ _ _ _
  refine wpIn_seq (wpIn_seq (At.regionA (lr := none) (dr := false) hC hm rfl h4 (F.q5 es rows ks) rfl rfl fun b5 w5 S5 m5 h5 c5 d5 x5 => ?_))
  show Code.wpIn _ _ _ _ _ _ _
  refine wpIn_cond_env (b := false) h5 rfl (fun q => by cases q) (fun _ => wpIn_skip ?_)
  show Code.wpIn _ _ _ _ _ _ _
  refine wpIn_seq (At.regionA (lr := none) (dr := false) hC hm rfl h5 (F.q7 es rows ks) rfl rfl fun b7 w7 S7 m7 h7 c7 d7 x7 => ?_)
  show Code.wpIn _ _ _ _ _ _ _
  refine wpIn_seq (wpIn_seq (At.regionA (lr := none) (dr := false) hC hm rfl h7 (F.q8 es rows ks) rfl rfl fun b8 w8 S8 m8 h8 c8 d8 x8 => ?_))
  show Code.wpIn _ _ _ _ _ _ _
  have hmm8 : ∀ j u, j < 2 → m j = some u → mSR m8 j = some u := fun j u hj q => by
    have hh : ∀ j, (mS2 m j = some u) → m8 j = some u := fun j q => d8 j u (d7 j u (d5 j u (d4 j u (d3 j u (d2 j u (d1 j u q))))))
    match j, hj with
    | 0, _ => exact hh 0 q
    | 1, _ => exact hh 1 q
  have h9 : At C 0 O0 w S m (mkS sE (aO kk es rows ks 0) []) b8 w8 S8 (mSR m8) := by
    refine h8.renumC (fun i => match i with | 2 => 1003 | 3 => 1004 | 4 => 1005 | 5 => 1007 | 6 => 1025002 | k => k) (ks := [0, 1, 2, 3, 4, 5, 6]) rfl (by decide) (fun p hp => ?_) h8.tm (fun p hp => ?_) (fun i hi => ?_)
    · simp only [aO, List.mem_cons, List.not_mem_nil, or_false] at hp
      rcases hp with rfl | rfl | rfl | rfl | rfl | rfl | rfl
      · exact ⟨tabO 1, rfl, rfl, fun u h => h, fun u b x h => h⟩
      · exact ⟨.map kk vI es, rfl, rfl, fun u h => h, fun u b x h => h⟩
      · exact ⟨.cell (.slice (rwK kk)) false (.val (.slice (rwK kk)) rows), rfl, rfl, fun u h => h, fun u b x h => h⟩
      · exact ⟨.cell .bool false (.val .bool false), rfl, rfl, fun u h => h, fun u b x h => h⟩
      · exact ⟨.cell (.slice kk) false (.val (.slice kk) ks), rfl, rfl, fun u h => h, fun u b x h => h⟩
      · exact ⟨.cell vI false (.val vI 0), rfl, rfl, fun u h => h, fun u b x h => h⟩
      · exact ⟨.cell (.ref 0) false (.ptr 0 []), rfl, rfl, fun u h => h, fun u b x h => h⟩
    · simp only [sE, List.mem_cons, List.not_mem_nil, or_false] at hp
      rcases hp with rfl | rfl | rfl | rfl
      · exact (h8.slot 3 : RepV w8 S8 m8 (.ptr 1003 []) _)
      · exact (h8.slot 4 : RepV w8 S8 m8 (.ptr 1004 []) _)
      · exact (h8.slot 5 : RepV w8 S8 m8 (.ptr 1005 []) _)
      · exact (h8.slot 7 : RepV w8 S8 m8 (.ptr 1007 []) _)
    · obtain ⟨j, rfl⟩ : ∃ j, i = j + 7 := ⟨i - 7, by omega⟩
      rfl
  have hc9 : CSl w8 S8 (mSR m8) b8 := ⟨(h8.slot 3 : RepV w8 S8 m8 (.ptr 1003 []) _), (h8.slot 4 : RepV w8 S8 m8 (.ptr 1004 []) _), (h8.slot 5 : RepV w8 S8 m8 (.ptr 1005 []) _), (h8.slot 7 : RepV w8 S8 m8 (.ptr 1007 []) _)⟩
  obtain ⟨p, hp28, hbx⟩ : ∃ p, b8.tmps.getD 28 undef = .func (.func af) #[] #[p] ∧ RepV w8 S8 (mSR m8) (.ptr 6 []) p := by
    obtain ⟨vs, q1, q2⟩ := repV_clo (h8.slot 28 : RepV w8 S8 m8 (.clo af (.tc (.ptr 1025002 []) .tn)) _)
    obtain ⟨p, r, e1, e2, e3⟩ := q1
    have e3 : r = [] := e3
    subst e3; subst e1
    exact ⟨p, q2, e2⟩
  -- the loop
  refine wpIn_block (wpIn_rangeFunc fun fn' _ => ?_)
  obtain ⟨W1, hW1⟩ : ∃ W1, (w8.alloc (.deferred (some []))).alloc (.loop (recS fn fn' b8 w8.heap.size .ready none)) = W1 := ⟨_, rfl⟩
  have hL1 : W1.heap[w8.heap.size + 1]? = some (.loop (recS fn fn' b8 w8.heap.size .ready none)) := by
    rw [← hW1]; have := World.alloc_heap_new (w8.alloc (.deferred (some []))) (.loop (recS fn fn' b8 w8.heap.size .ready none)); rwa [World.size_alloc] at this
  have hK1 : W1.heap[w8.heap.size]? = some (.deferred (some [])) := by
    rw [← hW1]; exact (Below.heap_alloc _ _ _ (by simp)).trans (World.alloc_heap_new w8 _)
  have hg1 : Gr w8 W1 none := by
    rw [← hW1]
    have g1 := World.grownBy_alloc w8 (.deferred (some [])) none
    have g2 := World.grownBy_alloc (w8.alloc (.deferred (some []))) (.loop (recS fn fn' b8 w8.heap.size .ready none)) none
    exact ⟨⟨g2.os.trans g1.os, g2.tape.trans g1.tape, g2.output.trans g1.output, Nat.le_trans g1.size g2.size, fun b hb q => (g2.block b (Nat.lt_of_lt_of_le hb g1.size) q).trans (g1.block b hb q)⟩, Nat.le_refl _⟩
  refine ⟨w8.heap.size + 1, [{ target := .collected w8.heap.size, args := #[] }], W1, { target := .fn (.func af) #[p], args := #[.func (.yield (w8.heap.size + 1)) #[] #[]] }, W1, af, #[.func (.yield (w8.heap.size + 1)) #[] #[], p], W1, ?_, ?_, fun _ _ => trivial, ?_, (fun q => by cases q), ?_⟩
  · rw [← hW1]; exact run_enterLoop_outer _ _ _ _ _
  · have e28 : (withD [] b8).tmps[28]?.getD undef = .func (.func af) #[] #[p] := by simpa [withD, Array.getD_eq_getD_getElem?] using hp28
    simp [resolve, e28, Deferred.ofValue, Act.eval]
  · have g1 : fa.name ≠ "runtime.NumGoroutine" := by simpa using A.hname
    have g2 : fa.body ≠ none := fun e => by rw [A.hb] at e; cases e
    simp [invoke, callFunc, Sem.run_bind, A.hf, g1, g2]
  have hwD : w.heap.size ≤ w8.heap.size := h9.ext.size
  have hkg := grown_keeps (S := S8) hg1
  refine (all_in hC hCa hm F A hfl h8.tm hks hrw hle (h9.grownW hg1 (fun r e => by cases e)) (hc9.keep hkg fun _ _ q => q) (hbx.keep hkg fun _ _ q => q) hL1 hK1 (by omega) (by omega)).mono ?_
  rintro en W2 ⟨⟨v, rfl⟩, S10, m10, h10, hc10, hL10, hD10, hm10⟩
  have hend : (Instr.endLoop (w8.heap.size + 1)).run P W2 = .ok none (W2.putObj (w8.heap.size + 1) (.loop { recS fn fn' b8 w8.heap.size .ready none with state := .exhausted })) := run_endLoop (P := P) hL10 (by show LoopState.ready ≠ .busy; decide)
  refine ⟨none, _, hend, ?_⟩
  have h11 := h10.grownW (Gr.putObj W2 (w8.heap.size + 1) (.loop { recS fn fn' b8 w8.heap.size .ready none with state := .exhausted })) (fun r e => by cases e; exact ⟨by omega, _, hL10, rfl, rfl⟩)
  have hD11 : (W2.putObj (w8.heap.size + 1) (.loop { recS fn fn' b8 w8.heap.size .ready none with state := .exhausted })).heap[w8.heap.size]? = some (.deferred (some [])) := (World.putObj_heap_other (by omega)).trans hD10
  generalize W2.putObj (w8.heap.size + 1) (.loop { recS fn fn' b8 w8.heap.size .ready none with state := .exhausted }) = w11 at h11 hD11 ⊢
  show Code.wpIn _ _ _ _ _ (withD [{ target := .collected w8.heap.size, args := #[] }] b8) _
  have q14 := F.q14 es rows ks (rows.length : Int)
  rw [beq_self_eq_true] at q14
  refine wpIn_seq (At.regionA (lr := none) (dr := false) hC hm rfl h11 q14 rfl rfl fun b12 w12 S12 m12 h12 c12 d12 x12 => ?_)
  show Code.wpIn _ _ _ _ _ _ _
  refine wpIn_ret ?_
  have hD12 := h11.blk x12 hD11 rfl rfl
  show LeavesInM (Fr none) 0 P fn b12.tmps _ [{ target := .collected w8.heap.size, args := #[] }] .returning w12
  refine ⟨by simp, .inl ⟨w8.heap.size, _, rfl, run_takeDeferred hD12, ?_⟩⟩
  have h13 := h12.grownW (Gr.putObj w12 w8.heap.size (.deferred none)) (fun r e => by cases e; exact ⟨hwD, _, hD12, rfl, rfl⟩)
  obtain ⟨l, l1, l2⟩ := Option.map_eq_some_iff.1 (F.e14 es true)
  obtain ⟨v', g1, g2⟩ := results_ok hC h13.rel l1
  rw [l2] at g2
  have hF : At { ty := fun _ => none, sigs := fun _ => [], n := 0, mp := fun _ => none } 0 O0 w S m (mkS [] [(0, tabO 1), (1, .map kk vI es)] []) { tmps := #[], defers := [] } (w12.putObj w8.heap.size (.deferred none)) S12 (mS2 m12) := by
    refine h13.renumC (fun i => i) (ks := [0, 1]) rfl (by decide) (fun p hp => ?_) ⟨rfl, rfl⟩ (fun p hp => by cases hp) mS2_big
    simp only [List.mem_cons, List.not_mem_nil, or_false] at hp
    rcases hp with rfl | rfl
    · exact ⟨tabO 1, rfl, rfl, fun u h => h, fun u b x h => h⟩
    · exact ⟨.map kk vI es, rfl, rfl, fun u h => h, fun u b x h => h⟩
  have hsto : (mkS [] [(0, tabO 1), (1, .map kk vI es)] []).sto = objs0 (fillOs [tabSk 1, .map kk vI] (((), ()), (es, ()))) := by
    funext i
    match i with
    | 0 => rfl
    | 1 => rfl
    | i + 2 => rfl
  refine ⟨v', g1, v', rfl, S12, mS2 m12, g2, ⟨⟨fun i o ho => hF.rel.sto i o (by rw [hsto]; exact ho), fun i j o p u v hij ho hp => hF.rel.apart i j o p u v hij (by rw [hsto]; exact ho) (by rw [hsto]; exact hp), fun i o u ho => hF.rel.stab i o u (by rw [hsto]; exact ho), hF.rel.live⟩, fun t => .inl rfl, fun d hd hn => ⟨mS2_big _ (by omega), fun k _ => mS2_big _ (by omega)⟩, fun i hi => mS2_big i (by omega)⟩, fun i u hi q => ?_, ?_⟩
  · have hh : ∀ j, j < 2 → m j = some u → m12 j = some u := fun j hj q => d12 j u (hm10 j u hj (hmm8 j u hj q))
    have hi : i < 2 := hi
    match i, hi with
    | 0, hi => exact hh 0 hi q
    | 1, hi => exact hh 1 hi q
  · have := hF.ext
    rw [hsto] at this
    rw [← hO0]
    exact this
end
end Go.Proofs.D
