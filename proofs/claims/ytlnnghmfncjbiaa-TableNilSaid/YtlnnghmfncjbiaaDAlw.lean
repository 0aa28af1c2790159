/- A range over a table's All, walked. -/
import Derived.Test.YtlnnghmfncjbiaaDAll
set_option linter.unusedVariables false
set_option linter.unusedSimpArgs false
namespace Go.Proofs.D
open Go.RowKit

def m9 (m : Nat → Option MB) : Nat → Option MB := fun i => match i with | 0 => m 0 | 1 => m 1 | 2 => m 2 | 3 => m 3 | 4 => m 4 | 5 => m 5 | 6 => m 6 | 7 => m 7 | 8 => m 8 | _ => none

section
variable {P : Program} {C C1 Ca : Ctx} {fn fa : Func} {f af : FuncId} {kk : K} {le : El kk → El kk → Bool} {ts : Array TypeId} {s : St} {a a' b : Act} {w w' : World} {S S' : Cells} {m m' : Nat → Option MB} {O0 O' : Cells} {w0 : World} {S0 : Cells} {m0 : Nat → Option MB}
  {E E' : List (Nat × T)} {d : List Nat} {es : List (El kk × El vI)} {rows : List (El (rwK kk))} {ks : List (El kk)} {n : Int}

theorem m9_big : ∀ i, 1000 ≤ i → m9 m i = none := fun i hi => by
  obtain ⟨j, rfl⟩ : ∃ j, i = j + 9 := ⟨i - 9, by omega⟩
  rfl
theorem aL_re (h : At C 0 O0 w0 S0 m0 (mkS E (aL kk es rows ks n) d) a w S m) (hT : TmOk C1 a') (henv : ∀ p ∈ E', RepV w S (m9 m) p.2 (a'.tmps.getD p.1 undef)) : At C1 0 O0 w0 S0 m0 (mkS E' (aL kk es rows ks n) []) a' w S (m9 m) := by
  refine h.renumC (fun i => i) (ks := i9) rfl (by decide) (fun p hp => ?_) hT henv m9_big
  simp only [aL, List.mem_cons, List.not_mem_nil, or_false] at hp
  rcases hp with rfl | rfl | rfl | rfl | rfl | rfl | rfl | rfl | rfl <;> exact ⟨_, rfl, rfl, fun u h => h, fun u b x h => h⟩

/-- The slots of the loop's frame. -/
structure CSl (w : World) (S : Cells) (m : Nat → Option MB) (b : Act) : Prop where
  t3 : RepV w S m (.ptr 2 []) (b.tmps.getD 3 undef)
  t4 : RepV w S m (.ptr 3 []) (b.tmps.getD 4 undef)
  t5 : RepV w S m (.ptr 4 []) (b.tmps.getD 5 undef)
  t7 : RepV w S m (.ptr 5 []) (b.tmps.getD 7 undef)
theorem CSl.keep (h : CSl w S m b) (k : Keeps w S w' S') (hm : ∀ i u, m i = some u → m' i = some u) : CSl w' S' m' b := ⟨h.t3.keep k hm, h.t4.keep k hm, h.t5.keep k hm, h.t7.keep k hm⟩
theorem CSl.m9 (h : CSl w S m b) : CSl w S (m9 m) b := ⟨h.t3, h.t4, h.t5, h.t7⟩
/-- The slots of All's frame. -/
structure ASl (kk : K) (w : World) (S : Cells) (m : Nat → Option MB) (a : Act) (ks : List (El kk)) (i : Int) : Prop where
  t3 : RepV w S m (.ptr 7 []) (a.tmps.getD 3 undef)
  t11 : RepV w S m (.val (.slice kk) ks) (a.tmps.getD 11 undef)
  t12 : RepV w S m (.val vI (ks.length : Int)) (a.tmps.getD 12 undef)
  t13 : RepV w S m (.val vI i) (a.tmps.getD 13 undef)
theorem ASl.keep {i : Int} (h : ASl kk w S m a ks i) (k : Keeps w S w' S') (hm : ∀ i u, m i = some u → m' i = some u) : ASl kk w' S' m' a ks i := ⟨h.t3.keep k hm, h.t11.keep k hm, h.t12.keep k hm, h.t13.keep k hm⟩
theorem ASl.m9 {i : Int} (h : ASl kk w S m a ks i) : ASl kk w S (m9 m) a ks i := ⟨h.t3, h.t11, h.t12, h.t13⟩

theorem At.blk (h : At C 0 O0 w0 S0 m0 s a w S m) (hx : Ext (OwnSt s.sto m) w S m w' S' m' O') {b : Nat} {o : Go.Obj} (hb : w.heap[b]? = some o) (hc : o.isCells = false) (hw : o.isWalk = false) : w'.heap[b]? = some o :=
  (hx.block b (Array.getElem?_eq_some_iff.1 hb).1 (h.notOwnW hb hc hw)).trans hb
theorem keeps_put {L : Nat} {o o' : Go.Obj} (h : w.heap[L]? = some o) (hc : o.isCells = false) : Keeps w S (w.putObj L o') S :=
  ⟨fun _ _ q => q, fun b x v _ hv => by rw [World.cell?_of_block (a := ⟨b, x, none⟩) (grown_cell (Gr.putObj w L o') (fun r e => by cases e; exact ⟨o, h, hc⟩) hv)]; exact hv⟩

def recS (fn : Func) (fn' : FuncId) (b : Act) (D : Nat) (st : LoopState) (pe : Option Code) : Loop := { state := st, pending := pe, fn := fn', tmps := b.tmps, params := #[29, 30], assign := rndAss fn, body := rndBody fn, defers := D }

theorem round_in (hC : CtxOk P C) (hm : P.follows .mixedOrders = true) (F : SameFacts P C f fn af kk le) (hfl : kk.flat = true) {fn' : FuncId} {L D : Nat} (hb : TmOk C b) (hTa : TmOk Ca a) {i : Nat} {k : El kk} {v : Int} {v1 v2 : Value}
    (h : At Ca 0 O0 w0 S0 m0 (mkS E (aL kk es rows ks (i : Int)) d) a w S m) (hc : CSl w S m b) (ha : ASl kk w S m a ks (i : Int))
    (hks : ks[i]? = some k) (hrow : rows[i]? = some (k, (v, ()))) (hlen : rows.length ≤ 100000) (hk : ∀ W' S' m', RepV W' S' m' (.val kk k) v1) (hv : ∀ W' S' m', RepV W' S' m' (.val vI v) v2)
    (hL : w.heap[L]? = some (.loop (recS fn fn' b D .ready none))) (hD : w.heap[D]? = some (.deferred (some []))) (hDL : D ≠ L) (hL0 : w0.heap.size ≤ L) :
    YieldAt (Fr none) 0 P L #[v1, v2] w fun en W' => en = .returned (.bool true) ∧ ∃ S' m', At Ca 0 O0 w0 S0 m0 (mkS (lE kk ks (ks.length : Int) (i : Int)) (aL kk es rows ks ((i + 1 : Nat) : Int)) []) a W' S' m' ∧ CSl W' S' m' b ∧
      W'.heap[L]? = some (.loop (recS fn fn' b D .ready none)) ∧ W'.heap[D]? = some (.deferred (some [])) ∧ ∀ j u, j < 2 → m j = some u → m' j = some u := by
  have hi := (List.getElem?_eq_some_iff.1 hrow).1
  have hsz2 : (#[v1, v2] : Array Value).size = (recS fn fn' b D .ready none).params.size := rfl
  have hy1 := run_yield (P := P) (args := #[v1, v2]) hL hsz2
  obtain ⟨ar, har⟩ : ∃ ar : Act, ar = { tmps := (b.tmps.setIfInBounds 29 v1).setIfInBounds 30 v2, defers := [] } := ⟨_, rfl⟩
  have htm : (((recS fn fn' b D .ready none).params.zip #[v1, v2]).foldl (fun tmps (x : Tmp × Value) => tmps.setIfInBounds x.1 x.2) (recS fn fn' b D .ready none).tmps) = ar.tmps := by
    have ez : (#[29, 30] : Array Tmp).zip #[v1, v2] = #[(29, v1), (30, v2)] := by
      apply Array.ext'
      simp [Array.toList_zip]
    rw [har]
    show Array.foldl _ b.tmps ((#[29, 30] : Array Tmp).zip #[v1, v2]) = _
    rw [ez]
    simp
  refine ⟨_, _, _, _, hy1, ?_⟩
  have hrd : ({ tmps := ((recS fn fn' b D .ready none).params.zip #[v1, v2]).foldl (fun tmps (x : Tmp × Value) => tmps.setIfInBounds x.1 x.2) (recS fn fn' b D .ready none).tmps, defers := [] } : Act) = withD [] ar := by rw [htm]; rfl
  refine roundIn_of_wpIn trivial ?_
  have hrd' : ∀ (c : Code) (Q : Exit → Act → World → Prop), c.wpIn ((Fr none).inRound L) 0 P Q (withD [] ar) w → c.wpIn ((Fr none).inRound L) 0 P Q { tmps := ((recS fn fn' b D .ready none).params.zip #[v1, v2]).foldl (fun tmps (x : Tmp × Value) => tmps.setIfInBounds x.1 x.2) (recS fn fn' b D .ready none).tmps, defers := [] } w := fun c Q q => by rw [hrd]; exact q
  refine hrd' _ _ ?_
  have hTr : TmOk C ar := by rw [har]; exact ⟨by simp [hb.1], rfl⟩
  have h67 := F.h67
  have or2 : ∀ t, t ≠ 29 → t ≠ 30 → ar.tmps.getD t undef = b.tmps.getD t undef := fun t h1 h2 => by
    rw [har]
    simp only [Array.getD_eq_getD_getElem?]
    rw [Array.getElem?_setIfInBounds_ne (Ne.symm h2), Array.getElem?_setIfInBounds_ne (Ne.symm h1)]
  have or29 : ar.tmps.getD 29 undef = v1 := by
    have : 29 < b.tmps.size := by rw [hb.1]; omega
    rw [har]
    simp only [Array.getD_eq_getD_getElem?]
    rw [Array.getElem?_setIfInBounds_ne (by decide)]
    simp [this]
  have or30 : ar.tmps.getD 30 undef = v2 := by
    have : 30 < b.tmps.size := by rw [hb.1]; omega
    rw [har]; simp [this]
  have hr : At C 0 O0 w0 S0 m0 (mkS (sEr kk k v) (aL kk es rows ks (i : Int)) []) ar w S (m9 m) := by
    refine aL_re h hTr fun p hp => ?_
    simp only [sEr, List.mem_cons, List.not_mem_nil, or_false] at hp
    rcases hp with rfl | rfl | rfl | rfl | rfl | rfl
    · show RepV _ _ _ (.ptr 2 []) (ar.tmps.getD 3 undef)
      rw [or2 3 (by decide) (by decide)]; exact hc.m9.t3
    · show RepV _ _ _ (.ptr 3 []) (ar.tmps.getD 4 undef)
      rw [or2 4 (by decide) (by decide)]; exact hc.m9.t4
    · show RepV _ _ _ (.ptr 4 []) (ar.tmps.getD 5 undef)
      rw [or2 5 (by decide) (by decide)]; exact hc.m9.t5
    · show RepV _ _ _ (.ptr 5 []) (ar.tmps.getD 7 undef)
      rw [or2 7 (by decide) (by decide)]; exact hc.m9.t7
    · show RepV _ _ _ (.val kk k) (ar.tmps.getD 29 undef)
      rw [or29]; exact hk _ _ _
    · show RepV _ _ _ (.val vI v) (ar.tmps.getD 30 undef)
      rw [or30]; exact hv _ _ _
  have hcm := hc.m9
  have ham := ha.m9
  show (rndAss fn).wpIn _ _ _ _ _ _
  refine wpIn_seq (At.regionA (lr := some L) (dr := false) hC hm rfl hr (F.q9 es rows ks (i : Int) k v) rfl rfl fun a6 w6 S6 m6 h6 c6 d6 x6 => ?_)
  show Code.wpIn _ _ _ _ _ _ _
  refine At.regionA (lr := some L) (dr := false) hC hm rfl h6 (F.q10 es rows ks (i : Int) k v) rfl rfl fun a7 w7 S7 m7 h7 c7 d7 x7 => ?_
  have hL7 := h6.blk x7 (hr.blk x6 hL rfl rfl) rfl rfl
  have hD7 := h6.blk x7 (hr.blk x6 hD rfl rfl) rfl rfl
  refine ⟨_, run_beginRound hL7 rfl, ?_⟩
  show (rndBody fn).wpIn _ _ _ _ _ (w7.putObj L (.loop (recS fn fn' b D .busy none)))
  have h8 := h7.grownW (Gr.putObj w7 L (.loop (recS fn fn' b D .busy none))) (fun r e => by cases e; exact ⟨hL0, _, hL7, rfl, rfl⟩)
  have c8 : Keeps w7 S7 (w7.putObj L (.loop (recS fn fn' b D .busy none))) S7 := keeps_put hL7 rfl
  have hL8 : (w7.putObj L (.loop (recS fn fn' b D .busy none))).heap[L]? = some (.loop (recS fn fn' b D .busy none)) := World.putObj_heap_same (Array.getElem?_eq_some_iff.1 hL7).1
  have hD8 : (w7.putObj L (.loop (recS fn fn' b D .busy none))).heap[D]? = some (.deferred (some [])) := (World.putObj_heap_other hDL).trans hD7
  generalize w7.putObj L (.loop (recS fn fn' b D .busy none)) = w8 at h8 c8 hL8 hD8 ⊢
  have q11 : evalReg C true (rops (bodyOf fn) 11).toList (mkS (sE9 v) (aK kk es rows ks (i : Int) 1008 k) [8]) (fun sF => some (facts [3, 4, 5, 7, 60] i9 sF)) = some (told (sEb false) (aL kk es rows ks (i : Int)) [8]) := by
    have q := F.q11 es rows ks (i : Int) k v
    have e1 : decide ((i : Int) ≥ (rows.length : Int)) = false := by simp; omega
    rw [e1, cond_false, nthK_get hrow] at q
    simp only [eqE_rfl k hfl, Bool.not_true, cond_false] at q
    rw [nthK_get hrow] at q
    simp only [bne_self_eq_false, cond_false] at q
    rw [nthK_get hks, eqE_rfl k hfl] at q
    exact q
  refine wpIn_block (wpIn_seq (wpIn_seq (At.regionA (lr := some L) (dr := true) hC hm rfl h8 q11 rfl rfl fun a9 w9 S9 m9' h9 c9 d9 x9 => ?_)))
  show Code.wpIn _ _ _ _ _ _ _
  refine wpIn_cond_env (b := false) h9 rfl (fun q => by cases q) (fun _ => wpIn_skip ?_)
  show Code.wpIn _ _ _ _ _ _ _
  refine At.regionA (lr := some L) (dr := false) hC hm rfl h9 (F.q13 es rows ks (i : Int) false) rfl rfl fun a10 w10 S10 m10 h10 c10 d10 x10 => ?_
  have hL10 := h9.blk x10 (h8.blk x9 hL8 rfl rfl) rfl rfl
  have hD10 := h9.blk x10 (h8.blk x9 hD8 rfl rfl) rfl rfl
  have hw : IntKind.i64.wrap ((i : Int) + 1) = ((i + 1 : Nat) : Int) := succ_i64 (by omega)
  rw [hw] at h10
  have kk10 : Keeps w S w10 S10 := (((c6.trans c7).trans c8).trans c9).trans c10
  have mm10 : ∀ j u, m9 m j = some u → m10 j = some u := fun j u q => d10 j u (d9 j u (d7 j u (d6 j u q)))
  have hc10 := (hcm.keep kk10 mm10).m9
  have ha10 := (ham.keep kk10 mm10).m9
  refine ⟨_, _, run_endRound none hL10, rfl, S10, m9 m10, ?_, hc10.keep (keeps_put hL10 rfl) (fun _ _ q => q), World.putObj_heap_same (Array.getElem?_eq_some_iff.1 hL10).1, (World.putObj_heap_other hDL).trans hD10, fun j u hj q => ?_⟩
  · refine At.grownW ?_ (Gr.putObj w10 L _) (fun r e => by cases e; exact ⟨hL0, _, hL10, rfl, rfl⟩)
    refine aL_re h10 hTa fun p hp => ?_
    simp only [lE, List.mem_cons, List.not_mem_nil, or_false] at hp
    rcases hp with rfl | rfl | rfl | rfl
    · exact ha10.t3
    · exact ha10.t11
    · exact ha10.t12
    · exact ha10.t13
  · match j, hj with
    | 0, _ => exact mm10 0 u q
    | 1, _ => exact mm10 1 u q

def muA (n : Nat) (a : Act) : Nat := match a.tmps.getD 13 undef with | .int _ i => (n - i).toNat | _ => 0

theorem aO_re (h : At C 0 O0 w0 S0 m0 (mkS E (aO kk es rows ks n) d) a w S m) (hT : TmOk C1 a') (henv : ∀ p ∈ E', RepV w S (m9 m) p.2 (a'.tmps.getD p.1 undef)) : At C1 0 O0 w0 S0 m0 (mkS E' (aO kk es rows ks n) []) a' w S (m9 m) := by
  refine h.renumC (fun i => i) (ks := [0, 1, 2, 3, 4, 5, 6]) rfl (by decide) (fun p hp => ?_) hT henv m9_big
  simp only [aO, List.mem_cons, List.not_mem_nil, or_false] at hp
  rcases hp with rfl | rfl | rfl | rfl | rfl | rfl | rfl <;> exact ⟨_, rfl, rfl, fun u h => h, fun u b x h => h⟩
def mN (m : Nat → Option MB) : Nat → Option MB := fun i => match i with | 0 => m 0 | 1 => m 1 | 2 => m 2 | 3 => m 3 | 4 => m 4 | 5 => m 5 | 6 => m 6 | 7 => m 1009002 | 8 => m 1009003 | _ => none
theorem aN_re (h : At C 0 O0 w0 S0 m0 (mkS E (aN kk es rows ks n) d) a w S m) (hT : TmOk C1 a') (henv : ∀ p ∈ E', RepV w S (mN m) p.2 (a'.tmps.getD p.1 undef)) : At C1 0 O0 w0 S0 m0 (mkS E' (aL kk es rows ks n) []) a' w S (mN m) := by
  refine h.renumC (fun i => match i with | 7 => 1009002 | 8 => 1009003 | k => k) (ks := i9) rfl (by decide) (fun p hp => ?_) hT henv (fun i hi => ?_)
  · simp only [aL, List.mem_cons, List.not_mem_nil, or_false] at hp
    rcases hp with rfl | rfl | rfl | rfl | rfl | rfl | rfl | rfl | rfl
    · exact ⟨tabO 1, rfl, rfl, fun u h => h, fun u b x h => h⟩
    · exact ⟨.map kk vI es, rfl, rfl, fun u h => h, fun u b x h => h⟩
    · exact ⟨.cell (.slice (rwK kk)) false (.val (.slice (rwK kk)) rows), rfl, rfl, fun u h => h, fun u b x h => h⟩
    · exact ⟨.cell .bool false (.val .bool false), rfl, rfl, fun u h => h, fun u b x h => h⟩
    · exact ⟨.cell (.slice kk) false (.val (.slice kk) ks), rfl, rfl, fun u h => h, fun u b x h => h⟩
    · exact ⟨.cell vI false (.val vI n), rfl, rfl, fun u h => h, fun u b x h => h⟩
    · exact ⟨.cell (.ref 0) false (.ptr 0 []), rfl, rfl, fun u h => h, fun u b x h => h⟩
    · exact ⟨tabO 1009003, rfl, rfl, fun u h => h, fun u b x h => h⟩
    · exact ⟨.map kk vI es, rfl, rfl, fun u h => h, fun u b x h => h⟩
  · obtain ⟨j, rfl⟩ : ∃ j, i = j + 9 := ⟨i - 9, by omega⟩
    rfl

theorem all_in (hC : CtxOk P C) (hCa : CtxOk P Ca) (hm : P.follows .mixedOrders = true) (F : SameFacts P C f fn af kk le) (A : AllFacts P Ca af fa kk le ts) (hfl : kk.flat = true) {fn' : FuncId} {L D : Nat} {bx : Value} (hb : TmOk C b)
    (hks : ks = (es.map (·.1)).mergeSort le) (hrows : rows = rowsD le es) (hlen : es.length ≤ 100000)
    (h : At C 0 O0 w0 S0 m0 (mkS E (aO kk es rows ks 0) d) b w S m) (hc : CSl w S m b) (hbx : RepV w S m (.ptr 6 []) bx)
    (hL : w.heap[L]? = some (.loop (recS fn fn' b D .ready none))) (hD : w.heap[D]? = some (.deferred (some []))) (hDL : D ≠ L) (hL0 : w0.heap.size ≤ L) :
    CallsIn (Fr none) 0 P af #[.func (.yield L) #[] #[], bx] w fun en W' => (∃ v, en = .returned v) ∧ ∃ S' m', At C 0 O0 w0 S0 m0 (mkS sE (aL kk es rows ks (rows.length : Int)) []) b W' S' m' ∧ CSl W' S' m' b ∧
      W'.heap[L]? = some (.loop (recS fn fn' b D .ready none)) ∧ W'.heap[D]? = some (.deferred (some [])) ∧ ∀ j u, j < 2 → m j = some u → m' j = some u := by
  have hkl : ks.length = es.length := by rw [hks, List.length_mergeSort, List.length_map]
  have hrl : rows.length = ks.length := by rw [hrows, hks]; unfold rowsD; rw [List.length_map]
  have hrow : ∀ i k, ks[i]? = some k → rows[i]? = some (k, (getM kk vI es k, ())) := fun i k q => by
    rw [hrows]
    unfold rowsD
    rw [List.getElem?_map, ← hks, q]; rfl
  have gs := A.g
  simp only [List.all_cons, List.all_nil, Bool.and_eq_true, Option.isNone_iff_eq_none, and_true] at gs
  obtain ⟨g50, g53⟩ := gs
  have k0 := A.k0
  have k5 := A.k5
  simp only [Bool.and_eq_true] at k0 k5
  refine callsIn_of_wp A.hf A.hb trivial ?_ rfl
  have h28 := A.h28
  obtain ⟨a0, ha0⟩ : ∃ a0 : Act, a0 = { tmps := #[.func (.yield L) #[] #[], bx] ++ Array.replicate (fa.ntmps - (#[Value.func (.yield L) #[] #[], bx] : Array Value).size) undef, defers := [] } := ⟨_, rfl⟩
  rw [← ha0]
  have hT0 : TmOk Ca a0 := by
    rw [ha0]
    refine ⟨?_, rfl⟩
    have := A.hn
    simp; omega
  have hs0 : a0.tmps.getD 0 undef = .func (.yield L) #[] #[] := by rw [ha0]; simp [Array.getElem?_append]
  have hs1 : a0.tmps.getD 1 undef = bx := by rw [ha0]; simp [Array.getElem?_append]
  have put_self : ∀ {a : Act} {t : Nat} {v : Value}, TmOk Ca a → t < 29 → (a.put (some t) v).tmps.getD t undef = v := fun {a t v} hT ht => by
    have : t < a.tmps.size := by rw [hT.1]; omega
    simp [Act.put, this]
  have h0 : At Ca 0 O0 w0 S0 m0 (mkS [(1, .ptr 6 [])] (aO kk es rows ks 0) []) a0 w S (m9 m) := aO_re h hT0 fun p hp => by
    rw [List.mem_singleton] at hp; subst hp
    show RepV w S (m9 m) (.ptr 6 []) (a0.tmps.getD 1 undef)
    rw [hs1]; exact hbx
  have hc0 := hc.m9
  rw [← withD_self hT0.2]
  refine wpIn_seq (At.regionI hCa rfl h0 (A.q0 es rows ks 0) rfl rfl fun a1 w1 S1 m1 h1 c1 d1 x1 s1 => ?_)
  show Code.wpIn _ _ _ _ _ _ _
  have hL1 := h0.blk x1 hL rfl rfl
  have hD1 := h0.blk x1 hD rfl rfl
  have h1' : At Ca 0 O0 w0 S0 m0 (mkS [(3, .ptr 7 [])] (aL kk es rows ks 0) []) a1 w1 S1 (mN m1) := aN_re h1 h1.tm fun p hp => by
    rw [List.mem_singleton] at hp; subst hp
    exact (h1.slot 3 : RepV w1 S1 m1 (.ptr 1009002 []) _)
  have hc1 : CSl w1 S1 (mN m1) b := ⟨(hc0.keep c1 d1).t3, (hc0.keep c1 d1).t4, (hc0.keep c1 d1).t5, (hc0.keep c1 d1).t7⟩
  have hy1 := (s1 0 k0.1.1.1.1.1).trans hs0
  have q1 := A.q1 es rows ks 0
  have hkv : tabKeysF kk vI le es = some (ks, (((), ()), (es, ()))) := by
    unfold tabKeysF
    rw [Nat.ble_eq_true_of_le (by omega), ← hks]; rfl
  rw [hkv] at q1
  refine wpIn_seq (At.regionI (E' := lE kk ks (ks.length : Int) 0) (O' := aL kk es rows ks 0) (d' := [11]) hCa rfl h1' q1 rfl rfl fun a2 w2 S2 m2 h2 c2 d2 x2 s2 => ?_)
  show Code.wpIn _ _ _ _ _ _ _
  have hL2 := h1'.blk x2 hL1 rfl rfl
  have hD2 := h1'.blk x2 hD1 rfl rfl
  have hc2 := hc1.keep c2 d2
  have hy2 := (s2 0 k0.1.1.1.1.2).trans hy1
  have hm2 : ∀ j u, j < 2 → m j = some u → m9 m2 j = some u := fun j u hj q => by
    match j, hj with
    | 0, _ => exact d2 0 u (d1 0 u q)
    | 1, _ => exact d2 1 u (d1 1 u q)
  rw [withD_self h2.tm.2]
  refine wpIn_block (wpIn_loop (fun a w => ∃ (i : Nat) (S : Cells) (mm : Nat → Option MB), i ≤ ks.length ∧ At Ca 0 O0 w0 S0 m0 (mkS (lE kk ks (ks.length : Int) (i : Int)) (aL kk es rows ks (i : Int)) []) a w S mm ∧ CSl w S mm b ∧ a.tmps.getD 0 undef = .func (.yield L) #[] #[] ∧
    w.heap[L]? = some (.loop (recS fn fn' b D .ready none)) ∧ w.heap[D]? = some (.deferred (some [])) ∧ ∀ j u, j < 2 → m j = some u → mm j = some u) (fun a _ => muA ks.length a) ?_ ?_)
  · refine ⟨0, S2, m9 m2, Nat.zero_le _, aL_re h2 h2.tm fun p hp => ?_, hc2.m9, hy2, hL2, hD2, hm2⟩
    simp only [lE, List.mem_cons, List.not_mem_nil, or_false] at hp
    rcases hp with rfl | rfl | rfl | rfl
    · exact (h2.slot 3 : RepV w2 S2 m2 (.ptr 7 []) _)
    · exact (h2.slot 11 : RepV w2 S2 m2 (.val (.slice kk) ks) _)
    · exact (h2.slot 12 : RepV w2 S2 m2 (.val vI (ks.length : Int)) _)
    · exact (h2.slot 13 : RepV w2 S2 m2 (.val vI 0) _)
  · rintro a3 w3 ⟨i, S3, m3, hil, h3, hc3, hy3, hL3, hD3, hm3⟩
    rw [← withD_self h3.tm.2]
    refine wpIn_seq (At.regionI hCa rfl h3 (A.q2 es rows ks (i : Int) ks (ks.length : Int) (i : Int)) rfl rfl fun a4 w4 S4 m4 h4 c4 d4 x4 s4 => ?_)
    show Code.wpIn _ _ _ _ _ _ _
    have hL4 := h3.blk x4 hL3 rfl rfl
    have hD4 := h3.blk x4 hD3 rfl rfl
    have hc4 := hc3.keep c4 d4
    have hy4 := (s4 0 k0.1.1.1.2).trans hy3
    have i13 := repV_int (h3.slot 13 : RepV w3 S3 m3 (.val vI (i : Int)) _)
    refine wpIn_seq (wpIn_cond_env (b := decide ((i : Int) < (ks.length : Int))) h4 rfl (fun hlt => wpIn_skip ?_) (fun hge => wpIn_exit ?_))
    · have hlt : i < ks.length := by simpa using hlt
      obtain ⟨k, hk⟩ : ∃ k, ks[i]? = some k := ⟨_, List.getElem?_eq_getElem hlt⟩
      show Code.wpIn _ _ _ _ _ _ _
      have q3 := A.q3 es rows ks (i : Int) ks (ks.length : Int) (i : Int) (decide ((i : Int) < (ks.length : Int)))
      rw [nthK_get hk] at q3
      refine wpIn_seq (wpIn_block (wpIn_seq (At.regionI hCa rfl h4 q3 rfl rfl fun a5 w5 S5 m5 h5 c5 d5 x5 s5 => ?_)))
      show Code.wpIn _ _ _ _ _ _ _
      refine wpIn_seq (At.regionI hCa rfl h5 (A.q4 es rows ks (i : Int) ks (ks.length : Int) (i : Int) k) rfl rfl fun a6 w6 S6 m6 h6 c6 d6 x6 s6 => ?_)
      show Code.wpIn _ _ _ _ _ _ _
      have hL6 := h5.blk x6 (h4.blk x5 hL4 rfl rfl) rfl rfl
      have hD6 := h5.blk x6 (h4.blk x5 hD4 rfl rfl) rfl rfl
      have hc6 := (hc4.keep c5 d5).keep c6 d6
      have hy6 := (s6 0 k0.1.2).trans ((s5 0 k0.1.1.2).trans hy4)
      have hm6 : ∀ j u, j < 2 → m j = some u → m6 j = some u := fun j u hj q => d6 j u (d5 j u (d4 j u (hm3 j u hj q)))
      -- the yield
      refine wpIn_seq (wpIn_region ?_)
      have r5 := A.r5
      have hat : ∀ j, (rops (bodyOf fa) 5)[j]? = [rg fa 5 0, rg fa 5 1, rg fa 5 2, rg fa 5 3, rg fa 5 4][j]? := fun j => by rw [← Array.getElem?_toList, r5]
      rw [show (rops (bodyOf fa) 5).size = 5 by rw [← Array.length_toList, r5]; rfl]
      show wpOpsIn _ _ _ _ _ (0 :: (List.range' 1 [rg fa 5 1, rg fa 5 2].length ++ [3, 4])) _ _
      refine opsIn_cons (hat 0) g50 ⟨fun _ _ => trivial, ?_⟩
      rw [Oper.semAt_eq _ _ _ (fun c q => by rw [A.o50] at q; cases q)]
      have he6 : (withD [] a6).eval = a6.eval := by funext x; cases x <;> rfl
      have p0 : a6.eval (.tmp 0) = .func (.yield L) #[] #[] := hy6
      have r50 : (execOp (withD [] a6).eval (rg fa 5 0)).run P w6 = .ok (.value (.func (.yield L) #[] #[])) w6 := by rw [he6]; simp [execOp, A.o50, p0]
      rw [r50, Oper.uponIn_value, A.d50, withD_put]
      have h7 : At Ca 0 O0 w0 S0 m0 (mkS (lEv kk ks (ks.length : Int) (i : Int) (getM kk vI es k)) (aK kk es rows ks (i : Int) 1005 k) [20, 5]) (a6.put (some 23) (.func (.yield L) #[] #[])) w6 S6 m6 := by
        refine (h6.putT (d := 23) (t := .any 0) (by omega) (.inl rfl)).told (fun t => ?_) rfl rfl
        by_cases et : t = 23
        · subst et; exact .inl rfl
        · refine .inr ?_
          show _ = (bif Nat.beq t 23 then _ else _)
          have : Nat.beq t 23 = false := by cases hq : Nat.beq t 23 with
            | false => rfl
            | true => exact absurd (Nat.eq_of_beq_eq_true hq) et
          rw [this]; rfl
      refine At.opsS (E' := lEy kk ks (ks.length : Int) (i : Int) k (getM kk vI es k)) (O' := aL kk es rows ks (i : Int)) (ρ' := fun _ => none) (d' := [20, 5]) hCa rfl (fun j y hy => ?_) h7 rfl rfl (fun i o q => by cases q) (A.q5 es rows ks (i : Int) ks (ks.length : Int) (i : Int) k (getM kk vI es k)) fun a8 w8 S8 m8 h8 c8 d8 x8 s8 => ?_
      · rw [hat]
        match j, hy with
        | 0, hy => exact hy
        | 1, hy => exact hy
        | j + 2, hy => simp at hy
      rw [mkR_mkS] at h8
      have hL8 := h7.blk x8 hL6 rfl rfl
      have hD8 := h7.blk x8 hD6 rfl rfl
      have hc8 := hc6.keep c8 d8
      have hy8 := (s8 0 k5.1.1).trans ((put_other (by decide)).trans hy6)
      have y23 : a8.tmps.getD 23 undef = .func (.yield L) #[] #[] := (s8 23 k5.1.2).trans (put_self h6.tm (by omega))
      have v24 : ∀ W' S' m', RepV W' S' m' (.val kk k) (a8.tmps.getD 24 undef) := fun W' S' m' => by
        rcases (h8.slot 24 : RepV w8 S8 m8 (.val kk k) _) with q | ⟨cs, z1, z2⟩
        · cases q
        · exact .inr ⟨cs, Rep.flat hfl z1, z2⟩
      have v25 : ∀ W' S' m', RepV W' S' m' (.val vI (getM kk vI es k)) (a8.tmps.getD 25 undef) := fun W' S' m' => by
        rcases (h8.slot 25 : RepV w8 S8 m8 (.val vI (getM kk vI es k)) _) with q | ⟨cs, z1, z2⟩
        · cases q
        · exact .inr ⟨cs, Rep.flat rfl z1, z2⟩
      have ha8 : ASl kk w8 S8 m8 a8 ks (i : Int) := ⟨(h8.slot 3 : RepV w8 S8 m8 (.ptr 7 []) _), (h8.slot 11 : RepV w8 S8 m8 (.val (.slice kk) ks) _), (h8.slot 12 : RepV w8 S8 m8 (.val vI (ks.length : Int)) _), (h8.slot 13 : RepV w8 S8 m8 (.val vI (i : Int)) _)⟩
      obtain ⟨f', tmps, assign, body, hyy, hR⟩ := round_in hC hm F hfl hb h8.tm h8 hc8 ha8 hk (hrow i k hk) (by omega) v24 v25 hL8 hD8 hDL hL0
      refine opsIn_cons (hat 3) g53 ⟨fun _ _ => trivial, ?_⟩
      rw [Oper.semAt_eq _ _ _ (fun c q => by rw [A.o53] at q; cases q)]
      have he8 : (withD [] a8).eval = a8.eval := by funext x; cases x <;> rfl
      have r53 : (execOp (withD [] a8).eval (rg fa 5 3)).run P w8 = .ok (.round L f' tmps assign body) w8 := by
        have e23 : a8.eval (.tmp 23) = .func (.yield L) #[] #[] := y23
        have e24 : a8.eval (.tmp 24) = a8.tmps.getD 24 undef := rfl
        have e25 : a8.eval (.tmp 25) = a8.tmps.getD 25 undef := rfl
        rw [he8]
        rw [Array.getD_eq_getD_getElem?, Array.getD_eq_getD_getElem?] at hyy
        rw [Array.getD_eq_getD_getElem?] at e24 e25
        simp [execOp, A.o53, resolve, e23, e24, e25, Deferred.ofValue, invoke, Sem.run_bind, hyy]
      rw [r53, Oper.uponIn_round, A.d53]
      refine ⟨fun q => by (cases q), hR.mono fun en W9 h9 => ?_⟩
      obtain ⟨rfl, S9, m9', hA9, hc9, hL9, hD9, hm9⟩ := h9
      show wpOpsIn _ _ _ _ _ (List.range' 4 [rg fa 5 4].length ++ []) ((withD [] a8).put (some 26) (.bool true)) _
      rw [withD_put]
      have h9 : At Ca 0 O0 w0 S0 m0 (mkS (lEb kk ks (ks.length : Int) (i : Int) 26 true) (aL kk es rows ks ((i + 1 : Nat) : Int)) []) (a8.put (some 26) (.bool true)) W9 S9 (m9 m9') := aL_re hA9 (h8.tm.put _ _) fun p hp => by
        simp only [lEb, List.mem_cons, List.not_mem_nil, or_false] at hp
        rcases hp with rfl | rfl | rfl | rfl | rfl
        · show RepV W9 S9 (m9 m9') (.ptr 7 []) ((a8.put (some 26) (.bool true)).tmps.getD 3 undef)
          rw [put_other (by decide)]; exact (hA9.slot 3 : RepV W9 S9 m9' (.ptr 7 []) _)
        · show RepV W9 S9 (m9 m9') (.val (.slice kk) ks) ((a8.put (some 26) (.bool true)).tmps.getD 11 undef)
          rw [put_other (by decide)]; exact (hA9.slot 11 : RepV W9 S9 m9' (.val (.slice kk) ks) _)
        · show RepV W9 S9 (m9 m9') (.val vI (ks.length : Int)) ((a8.put (some 26) (.bool true)).tmps.getD 12 undef)
          rw [put_other (by decide)]; exact (hA9.slot 12 : RepV W9 S9 m9' (.val vI (ks.length : Int)) _)
        · show RepV W9 S9 (m9 m9') (.val vI (i : Int)) ((a8.put (some 26) (.bool true)).tmps.getD 13 undef)
          rw [put_other (by decide)]; exact (hA9.slot 13 : RepV W9 S9 m9' (.val vI (i : Int)) _)
        · show RepV W9 S9 (m9 m9') (.val .bool true) ((a8.put (some 26) (.bool true)).tmps.getD 26 undef)
          rw [put_self h8.tm (by omega)]; exact repV_mkBool _
      refine At.opsS (E' := lEb kk ks (ks.length : Int) (i : Int) 27 (!true)) (O' := aL kk es rows ks ((i + 1 : Nat) : Int)) (ρ' := fun _ => none) (d' := []) hCa rfl (fun j y hy => ?_) h9 rfl rfl (fun i o q => by cases q) (A.q54 es rows ks ((i + 1 : Nat) : Int) ks (ks.length : Int) (i : Int) true) fun a10 w10 S10 m10 h10 c10 d10 x10 s10 => ?_
      · rw [hat]
        match j, hy with
        | 0, hy => exact hy
        | j + 1, hy => simp at hy
      rw [mkR_mkS] at h10
      show Code.wpIn _ _ _ _ _ _ _
      refine wpIn_cond_env (b := false) h10 rfl (fun q => by cases q) (fun _ => wpIn_skip ?_)
      show Code.wpIn _ _ _ _ _ _ _
      have hL10 := h9.blk x10 hL9 rfl rfl
      have hD10 := h9.blk x10 hD9 rfl rfl
      have hc10 := hc9.m9.keep c10 d10
      have hy10 := (s10 0 k5.2).trans ((put_other (by decide)).trans hy8)
      refine At.regionI hCa rfl h10 (A.q6 es rows ks ((i + 1 : Nat) : Int) ks (ks.length : Int) (i : Int) (!true)) rfl rfl fun a11 w11 S11 m11 h11 c11 d11 x11 s11 => ?_
      have hw : IntKind.i64.wrap ((i : Int) + 1) = ((i + 1 : Nat) : Int) := succ_i64 (by omega)
      rw [hw] at h11
      rw [withD_self h11.tm.2]
      have j13 := repV_int (h11.slot 13 : RepV w11 S11 m11 (.val vI ((i + 1 : Nat) : Int)) _)
      refine ⟨⟨i + 1, S11, m11, hlt, h11, hc10.keep c11 d11, (s11 0 k0.2).trans hy10, h10.blk x11 hL10 rfl rfl, h10.blk x11 hD10 rfl rfl, fun j u hj q => d11 j u (d10 j u ?_)⟩, ?_⟩
      · have := hm9 j u hj (d8 j u (hm6 j u hj q))
        match j, hj with
        | 0, _ => exact this
        | 1, _ => exact this
      · rw [withD_self h3.tm.2]
        unfold muA
        rw [i13, j13]
        simp only
        omega
    · have : i = ks.length := by
        have : ¬ (i : Int) < (ks.length : Int) := by simpa using hge
        omega
      subst this
      simp only [Exit.then, Exit.inBlock, if_true]
      rw [hrl]
      refine ⟨rfl, _, results_none A.hres _ _ _, ⟨_, rfl⟩, S4, m9 m4, aL_re h4 hb fun p hp => ?_, hc4.m9, hL4, hD4, fun j u hj q => ?_⟩
      · simp only [sE, List.mem_cons, List.not_mem_nil, or_false] at hp
        rcases hp with rfl | rfl | rfl | rfl
        · exact hc4.m9.t3
        · exact hc4.m9.t4
        · exact hc4.m9.t5
        · exact hc4.m9.t7
      · have := d4 j u (hm3 j u hj q)
        match j, hj with
        | 0, _ => exact this
        | 1, _ => exact this
end
end Go.Proofs.D
