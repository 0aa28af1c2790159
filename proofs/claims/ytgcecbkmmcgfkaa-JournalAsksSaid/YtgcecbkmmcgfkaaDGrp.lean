/- A loop that groups: parts[x.Key] = append(parts[x.Key], x.Delta). -/
import Derived.Test.YtgcecbkmmcgfkaaDGroup
set_option linter.unusedVariables false
set_option linter.unusedSimpArgs false
namespace Go.Proofs.D
open Go.RowKit

abbrev kI : K := .int .i64
abbrev Es (kk : K) := List (El kk × List Int)
def gAdd {kk : K} (es : Es kk) (y : El kk) (d : Int) : Es kk := putM kk (.slice kI) es y ((getM kk (.slice kI) es y : List Int) ++ [d])
def grpGo {kk : K} : List (El (eOp kk)) → Es kk → Es kk
  | [], es => es
  | x :: l, es => grpGo l (gAdd es x.1 x.2.1)
def gB {kk : K} (b0 : Bool) (xs : List (El (eOp kk))) (n i : Int) : List (Nat × T) := [(2, .nils (eOp kk)), (3, .val .bool b0), (4, .mapr 0), (13, .val (.slice (eOp kk)) xs), (14, .val kI n), (15, .val kI i)]
def gB3 {kk : K} (b0 : Bool) (xs : List (El (eOp kk))) (n i : Int) (q : Bool) : List (Nat × T) := [(2, .nils (eOp kk)), (3, .val .bool b0), (4, .mapr 0), (13, .val (.slice (eOp kk)) xs), (14, .val kI n), (15, .val kI i), (16, .val .bool q)]
def gB4 {kk : K} (b0 : Bool) (xs : List (El (eOp kk))) (n i : Int) : List (Nat × T) := [(2, .nils (eOp kk)), (3, .val .bool b0), (4, .mapr 0), (13, .val (.slice (eOp kk)) xs), (14, .val kI n), (15, .val kI i), (6, .ptr 1006 [])]
def gB5 {kk : K} (b0 : Bool) (xs : List (El (eOp kk))) (n i : Int) (y : El kk) : List (Nat × T) := [(2, .nils (eOp kk)), (3, .val .bool b0), (4, .mapr 0), (13, .val (.slice (eOp kk)) xs), (14, .val kI n), (15, .val kI i), (19, .mapr 0), (21, .val kk y), (25, .row 1025)]
def gB6 {kk : K} (b0 : Bool) (xs : List (El (eOp kk))) (n i st : Int) : List (Nat × T) := [(2, .nils (eOp kk)), (3, .val .bool b0), (4, .mapr 0), (13, .val (.slice (eOp kk)) xs), (14, .val kI n), (15, .val kI i), (19, .mapr 0), (25, .row 1025), (26, .tup (.tc (.row 99001) (.tc (.val kI st) .tn)))]
def gB7 {kk : K} (b0 : Bool) (xs : List (El (eOp kk))) (n i st : Int) : List (Nat × T) := [(2, .nils (eOp kk)), (3, .val .bool b0), (4, .mapr 0), (13, .val (.slice (eOp kk)) xs), (14, .val kI n), (15, .val kI i), (19, .mapr 0), (27, .row 1027), (28, .val kI st)]
def go5 (f : Func) (i : Nat) : Oper := (rops (bodyOf f) 5).toList.getD i default
def grpBody (f : Func) : Code := .seq (.region 3 (rops (bodyOf f) 3) false) (.seq (.cond (.tmp 16) .skip (.exit 0)) (.seq (.block 1 (.seq (.region 4 (rops (bodyOf f) 4) false) (.region 5 (rops (bodyOf f) 5) false))) (.region 6 (rops (bodyOf f) 6) false)))

structure GrpFacts (P : Program) (C : Ctx) (fn : Func) (kk : K) (t tk tv : TypeId) : Prop where
  h30 : 30 < C.n
  hfl : kk.flat = true
  hm : P.underlying t = some (.map tk tv)
  ht : C.ty tk = some kk
  hz : C.ty tv = some (.slice kI)
  h5 : (rops (bodyOf fn) 5).toList = [go5 fn 0, go5 fn 1, go5 fn 2, go5 fn 3, go5 fn 4, go5 fn 5, go5 fn 6, go5 fn 7, go5 fn 8, go5 fn 9, go5 fn 10]
  m6 : (go5 fn 6).op = .mapEntry t (.tmp 19) (.tmp 21)
  m6d : (go5 fn 6).dst = some 26
  m6g : (go5 fn 6).guard = none
  s10 : (go5 fn 10).op = .entryStore t (.tmp 19) (.tmp 28) (.tmp 27)
  s10d : (go5 fn 10).dst = none
  s10g : (go5 fn 10).guard = none
  q3 : ∀ (b0 : Bool) (xs : List (El (eOp kk))) (n i : Int) (ρ : Nat → Option Obj), evalReg C false (rops (bodyOf fn) 3).toList (mkR (gB b0 xs n i) [] ρ []) (fun sF => some (factR [2, 3, 4, 13, 14, 15, 16] [] sF)) = some (toldR (gB3 b0 xs n i (decide (i < n))) [] ρ [])
  q4 : ∀ (b0 : Bool) (xs : List (El (eOp kk))) (n i : Int) (q : Bool) (ρ : Nat → Option Obj), evalReg C false (rops (bodyOf fn) 4).toList (mkR (gB3 b0 xs n i q) [] ρ []) (fun sF => some (factR [2, 3, 4, 13, 14, 15, 6] [1006] sF)) =
    nthK xs i fun x => some (toldR (gB4 b0 xs n i) [(1006, .cell (eOp kk) false (.val (eOp kk) x))] ρ [6])
  q5a : ∀ (b0 : Bool) (xs : List (El (eOp kk))) (n i : Int) (x : El (eOp kk)) (ρ : Nat → Option Obj), evalOps C (rops (bodyOf fn) 5).toList [go5 fn 0, go5 fn 1, go5 fn 2, go5 fn 3, go5 fn 4, go5 fn 5] (mkR (gB4 b0 xs n i) [(1006, .cell (eOp kk) false (.val (eOp kk) x))] ρ [6]) (fun sF => some (factR [2, 3, 4, 13, 14, 15, 19, 21, 25] [1025] sF)) =
    some (toldR (gB5 b0 xs n i x.1) [(1025, .row kI false [x.2.1])] ρ [25, 6])
  q5b : ∀ (b0 : Bool) (xs : List (El (eOp kk))) (n i st d : Int) (vs : List Int) (ρ : Nat → Option Obj), evalOps C (rops (bodyOf fn) 5).toList [go5 fn 7, go5 fn 8, go5 fn 9] (mkR (gB6 b0 xs n i st) [(1025, .row kI false [d]), (99001, .row kI false vs)] ρ [98001, 25, 6]) (fun sF => some (factR [2, 3, 4, 13, 14, 15, 19, 27, 28] [1027] sF)) =
    room (vs.length + 1) (some (toldR (gB7 b0 xs n i st) [(1027, .row kI false (vs ++ [d]))] ρ [27, 98001, 25, 6]))
  q6 : ∀ (b0 : Bool) (xs : List (El (eOp kk))) (n i st : Int) (vs : List Int) (ρ : Nat → Option Obj), evalReg C false (rops (bodyOf fn) 6).toList (mkR (gB7 b0 xs n i st) [(1027, .row kI false vs)] ρ [27, 98001, 25, 6]) (fun sF => some (factR [2, 3, 4, 13, 14, 15] [1027] sF)) =
    some (toldR (gB b0 xs n (IntKind.i64.wrap (i + 1))) [(1027, .row kI false vs)] ρ [27, 98001, 25, 6])

/-- The rows of the entries. -/
def rowS {kk : K} (es : Es kk) : Nat → Option Obj := fun i => if 100000 ≤ i then (es[i - 100000]?).map fun p => .row kI false p.2 else none
section
variable {kk : K} {es es' : Es kk}
theorem rowS_at {j : Nat} {p : El kk × List Int} (h : es[j]? = some p) : rowS es (100000 + j) = some (.row kI false p.2) := by
  unfold rowS
  rw [if_pos (by omega), show 100000 + j - 100000 = j by omega, h]; rfl
theorem rowS_inv {i : Nat} {o : Obj} (h : rowS es i = some o) : ∃ j p, i = 100000 + j ∧ es[j]? = some p ∧ o = .row kI false p.2 := by
  unfold rowS at h
  by_cases hi : 100000 ≤ i
  · rw [if_pos hi] at h
    obtain ⟨p, h1, h2⟩ := Option.map_eq_some_iff.1 h
    exact ⟨i - 100000, p, by omega, h1, h2.symm⟩
  · rw [if_neg hi] at h; cases h
theorem rowS_ge {i : Nat} {o : Obj} (h : rowS es i = some o) : 100000 ≤ i := by obtain ⟨j, p, e, _⟩ := rowS_inv h; omega

theorem gAdd_found (hf : kk.flat = true) {y : El kk} {d : Int} {j : Nat} (h : ixK kk es y = some j) : ∃ vs, es[j]? = some (y, vs) ∧ gAdd es y d = es.set j (y, vs ++ [d]) := by
  obtain ⟨vs, hv⟩ := ixK_key hf h
  refine ⟨vs, hv, ?_⟩
  unfold gAdd
  rw [getM_ix, h, putM_ix, h]
  simp only [hv, Option.map_some, Option.getD_some]
theorem gAdd_new {y : El kk} {d : Int} (h : ixK kk es y = none) : gAdd es y d = (es ++ [(y, [])]).set es.length (y, ([] : List Int) ++ [d]) := by
  unfold gAdd
  rw [getM_ix, h, putM_ix, h]
  simp [zeroE]
theorem gAdd_len (y : El kk) (d : Int) : (gAdd es y d).length ≤ es.length + 1 := by
  unfold gAdd
  rw [putM_ix]
  split <;> simp
theorem gAdd_all (hf : kk.flat = true) {y : El kk} {d : Int} {n : Nat} (h : ∀ p ∈ es, p.2.length ≤ n) : ∀ p ∈ gAdd es y d, p.2.length ≤ n + 1 := by
  intro p hp
  cases hi : ixK kk es y with
  | none =>
    rw [gAdd_new hi] at hp
    rcases List.mem_or_eq_of_mem_set hp with q | q
    · rcases List.mem_append.1 q with r | r
      · have := h p r; omega
      · simp only [List.mem_singleton] at r; subst r; simp
    · subst q; simp
  | some j =>
    obtain ⟨vs, hv, e⟩ := gAdd_found (d := d) hf hi
    rw [e] at hp
    rcases List.mem_or_eq_of_mem_set hp with q | q
    · have := h p q; omega
    · subst q
      have := h _ (List.mem_of_getElem? hv)
      simpa using this
end

section
variable {P : Program} {C : Ctx} {fn : Func} {kk : K} {t tk tv : TypeId} {a a' : Act} {w w' : World} {S S' : Cells} {m m' : Nat → Option MB} {O0 : Cells} {w0 : World} {S0 : Cells} {m0 : Nat → Option MB}

/-- The map, in memory: its values are the rows' headers. -/
structure Grp (w : World) (S : Cells) (m : Nat → Option MB) (bm : Nat) (es : Es kk) (hs : List (El kk × El .hdr)) (fs : Array MapEntry) (clock : Nat) : Prop where
  um : ∃ um, m 0 = some um ∧ um.hv = .map (some bm) ∧ um.b = bm
  hb : w.heap[bm]? = some (.map fs clock)
  hM : MapL w S kk .hdr hs fs.toList
  hB : Born fs clock
  keys : hs.map (·.1) = es.map (·.1)
  rows : ∀ j p, hs[j]? = some p → ∃ u, m (100000 + j) = some u ∧ u.hv = p.2
  noS : ∀ x, ¬ S bm x

theorem noMapR {E : List (Nat × T)} {O : List (Nat × Obj)} {ρ : Nat → Option Obj} {d : List Nat} (hO : noMaps O = true) (hρ : ∀ i o, ρ i = some o → o.isMap = false) : ∀ i o, (mkR E O ρ d).sto i = some o → o.isMap = false := fun i o ho => by
  have ho : stoR O ρ i = some o := ho
  unfold stoR at ho
  cases hq : stoL O i with
  | some p => rw [hq] at ho; cases ho; exact noMaps_at (E := E) (d := d) hO i o hq
  | none => rw [hq] at ho; exact hρ i o ho
theorem rowS_noMap {es : Es kk} : ∀ i o, rowS es i = some o → o.isMap = false := fun i o h => by obtain ⟨j, p, _, _, e⟩ := rowS_inv h; rw [e]; rfl

/-- What is not owned stands while the operations run. -/
theorem Grp.step {s : St} {O' : Cells} {bm : Nat} {es : Es kk} {hs : List (El kk × El .hdr)} {fs : Array MapEntry} {clock : Nat} (G : Grp w S m bm es hs fs clock) (h : At C 0 O0 w0 S0 m0 s a w S m) (hm : ∀ i o, s.sto i = some o → o.isMap = false)
    (hx : Ext (OwnSt s.sto m) w S m w' S' m' O') : Grp w' S' m' bm es hs fs clock := by
  have hno := h.notOwn hm G.hb rfl
  have hlt := (Array.getElem?_eq_some_iff.1 G.hb).1
  obtain ⟨um, u1, u2, u3⟩ := G.um
  refine ⟨⟨um, hx.maps _ _ u1, u2, u3⟩, (hx.block bm hlt hno).trans G.hb, G.hM.keep (Keeps.of_ext h.rel.toStoRel hx), G.hB, G.keys, fun j p hp => ?_, fun x q => ?_⟩
  · obtain ⟨u, g1, g2⟩ := G.rows j p hp
    exact ⟨u, hx.maps _ _ g1, g2⟩
  · rcases hx.less bm x q with q | q | q
    · exact G.noS x q
    · exact hno x q
    · omega

theorem At.freshR {s : St} (h : At C 0 O0 w0 S0 m0 s a w S m) (hd : ∀ d, s.done d = false) : ∀ i, 1000000 ≤ i → m i = none := fun i hi => by
  by_cases h2 : 100000000 ≤ i
  · exact h.rel.top i h2
  · have := (h.rel.fresh ((i - 1000000) / 1000) (by omega) (hd _)).2 ((i - 1000000) % 1000) (by omega)
    rwa [show 1000000 + 1000 * ((i - 1000000) / 1000) + (i - 1000000) % 1000 = i by omega] at this
end
end Go.Proofs.D
