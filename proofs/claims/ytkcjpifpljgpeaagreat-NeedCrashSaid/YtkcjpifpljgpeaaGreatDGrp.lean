/- A loop that groups: parts[x.Key] = append(parts[x.Key], x.Delta). -/
import Derived.Test.YtkcjpifpljgpeaaGreatDGroup
set_option linter.unusedVariables false
set_option linter.unusedSimpArgs false
namespace Go.Proofs.D
open Go.RowKit

abbrev kI : K := .int .i64
abbrev Es (kk : K) := List (El kk × List Int)
def gB {kk : K} (b0 : Bool) (xs : List (El (eOp kk))) (n i : Int) : List (Nat × T) := [(2, .nils (eOp kk)), (3, .val .bool b0), (4, .mapr 0), (13, .val (.slice (eOp kk)) xs), (14, .val kI n), (15, .val kI i)]
def gB3 {kk : K} (b0 : Bool) (xs : List (El (eOp kk))) (n i : Int) (q : Bool) : List (Nat × T) := [(2, .nils (eOp kk)), (3, .val .bool b0), (4, .mapr 0), (13, .val (.slice (eOp kk)) xs), (14, .val kI n), (15, .val kI i), (16, .val .bool q)]
def gB4 {kk : K} (b0 : Bool) (xs : List (El (eOp kk))) (n i : Int) : List (Nat × T) := [(2, .nils (eOp kk)), (3, .val .bool b0), (4, .mapr 0), (13, .val (.slice (eOp kk)) xs), (14, .val kI n), (15, .val kI i), (6, .ptr 1006 [])]
def gB5 {kk : K} (b0 : Bool) (xs : List (El (eOp kk))) (n i : Int) (y : El kk) : List (Nat × T) := [(2, .nils (eOp kk)), (3, .val .bool b0), (4, .mapr 0), (13, .val (.slice (eOp kk)) xs), (14, .val kI n), (15, .val kI i), (19, .mapr 0), (21, .val kk y), (25, .row 1025)]
def gB6 {kk : K} (b0 : Bool) (xs : List (El (eOp kk))) (n i st : Int) : List (Nat × T) := [(2, .nils (eOp kk)), (3, .val .bool b0), (4, .mapr 0), (13, .val (.slice (eOp kk)) xs), (14, .val kI n), (15, .val kI i), (19, .mapr 0), (25, .row 1025), (26, .tup (.tc (.row 99001) (.tc (.val kI st) .tn)))]
def gB7 {kk : K} (b0 : Bool) (xs : List (El (eOp kk))) (n i st : Int) : List (Nat × T) := [(2, .nils (eOp kk)), (3, .val .bool b0), (4, .mapr 0), (13, .val (.slice (eOp kk)) xs), (14, .val kI n), (15, .val kI i), (19, .mapr 0), (27, .row 1027), (28, .val kI st)]
def go5 (f : Func) (i : Nat) : Oper := (rops (bodyOf f) 5).toList.getD i default
structure GrpFacts (P : Program) (C : Ctx) (fn : Func) (kk : K) (t tk tv : TypeId) : Prop where
  h30 : 30 < C.n
  hfl : kk.flat = true
  hm : P.underlying t = some (.map tk tv)
  ht : C.ty tk = some kk
  hz : C.ty tv = some (.slice kI)
  h5 : (rops (bodyOf fn) 5).toList = [go5 fn 0, go5 fn 1, go5 fn 2, go5 fn 3, go5 fn 4, go5 fn 5, go5 fn 6, go5 fn 7, go5 fn 8, go5 fn 9, go5 fn 10]
  m6 : (go5 fn 6).op = .mapEntry t (.tmp 19) (.tmp 21)
  m6d : (go5 fn 6).dst = some 26
  m6g : (go5 fn 6).guard = none
  s10 : (go5 fn 10).op = .entryStore t (.tmp 19) (.tmp 28) (.tmp 27)
  s10d : (go5 fn 10).dst = none
  s10g : (go5 fn 10).guard = none
  q3 : ∀ (b0 : Bool) (xs : List (El (eOp kk))) (n i : Int) (ρ : Nat → Option Obj), evalReg C false (rops (bodyOf fn) 3).toList (mkR (gB b0 xs n i) [] ρ []) (fun sF => some (factR [2, 3, 4, 13, 14, 15, 16] [] sF)) = some (toldR (gB3 b0 xs n i (decide (i < n))) [] ρ [])
  q4 : ∀ (b0 : Bool) (xs : List (El (eOp kk))) (n i : Int) (q : Bool) (ρ : Nat → Option Obj), evalReg C false (rops (bodyOf fn) 4).toList (mkR (gB3 b0 xs n i q) [] ρ []) (fun sF => some (factR [2, 3, 4, 13, 14, 15, 6] [1006] sF)) =
    nthK xs i fun x => some (toldR (gB4 b0 xs n i) [(1006, .cell (eOp kk) false (.val (eOp kk) x))] ρ [6])
  q5a : ∀ (b0 : Bool) (xs : List (El (eOp kk))) (n i : Int) (x : El (eOp kk)) (ρ : Nat → Option Obj), evalOps C (rops (bodyOf fn) 5).toList [go5 fn 0, go5 fn 1, go5 fn 2, go5 fn 3, go5 fn 4, go5 fn 5] (mkR (gB4 b0 xs n i) [(1006, .cell (eOp kk) false (.val (eOp kk) x))] ρ [6]) (fun sF => some (factR [2, 3, 4, 13, 14, 15, 19, 21, 25] [1025] sF)) =
    some (toldR (gB5 b0 xs n i x.1) [(1025, .row kI false [x.2.1])] ρ [25, 6])
  q5b : ∀ (b0 : Bool) (xs : List (El (eOp kk))) (n i st d : Int) (vs : List Int) (ρ : Nat → Option Obj), evalOps C (rops (bodyOf fn) 5).toList [go5 fn 7, go5 fn 8, go5 fn 9] (mkR (gB6 b0 xs n i st) [(1025, .row kI false [d]), (99001, .row kI false vs)] ρ [98001, 25, 6]) (fun sF => some (factR [2, 3, 4, 13, 14, 15, 19, 27, 28] [1027] sF)) =
    room (vs.length + 1) (some (toldR (gB7 b0 xs n i st) [(1027, .row kI false (vs ++ [d]))] ρ [27, 98001, 25, 6]))
  q6 : ∀ (b0 : Bool) (xs : List (El (eOp kk))) (n i st : Int) (vs : List Int) (ρ : Nat → Option Obj), evalReg C false (rops (bodyOf fn) 6).toList (mkR (gB7 b0 xs n i st) [(1027, .row kI false vs)] ρ [27, 98001, 25, 6]) (fun sF => some (factR [2, 3, 4, 13, 14, 15] [1027] sF)) =
    some (toldR (gB b0 xs n (IntKind.i64.wrap (i + 1))) [(1027, .row kI false vs)] ρ [27, 98001, 25, 6])

section
variable {kk : K} {es es' : Es kk}
end

section
variable {P : Program} {C : Ctx} {fn : Func} {kk : K} {t tk tv : TypeId} {a a' : Act} {w w' : World} {S S' : Cells} {m m' : Nat → Option MB} {O0 : Cells} {w0 : World} {S0 : Cells} {m0 : Nat → Option MB}

/-- The map, in memory: its values are the rows' headers. -/
structure Grp (w : World) (S : Cells) (m : Nat → Option MB) (bm : Nat) (es : Es kk) (hs : List (El kk × El .hdr)) (fs : Array MapEntry) (clock : Nat) : Prop where
  um : ∃ um, m 0 = some um ∧ um.hv = .map (some bm) ∧ um.b = bm
  hb : w.heap[bm]? = some (.map fs clock)
  hM : MapL w S kk .hdr hs fs.toList
  hB : Born fs clock
  keys : hs.map (·.1) = es.map (·.1)
  rows : ∀ j p, hs[j]? = some p → ∃ u, m (100000 + j) = some u ∧ u.hv = p.2
  noS : ∀ x, ¬ S bm x

/-- What is not owned stands while the operations run. -/
theorem Grp.step {s : St} {O' : Cells} {bm : Nat} {es : Es kk} {hs : List (El kk × El .hdr)} {fs : Array MapEntry} {clock : Nat} (G : Grp w S m bm es hs fs clock) (h : At C 0 O0 w0 S0 m0 s a w S m) (hm : ∀ i o, s.sto i = some o → o.isMap = false)
    (hx : Ext (OwnSt s.sto m) w S m w' S' m' O') : Grp w' S' m' bm es hs fs clock := by
  have hno := h.notOwn hm G.hb rfl
  have hlt := (Array.getElem?_eq_some_iff.1 G.hb).1
  obtain ⟨um, u1, u2, u3⟩ := G.um
  refine ⟨⟨um, hx.maps _ _ u1, u2, u3⟩, (hx.block bm hlt hno).trans G.hb, G.hM.keep (Keeps.of_ext h.rel.toStoRel hx), G.hB, G.keys, fun j p hp => ?_, fun x q => ?_⟩
  · obtain ⟨u, g1, g2⟩ := G.rows j p hp
    exact ⟨u, hx.maps _ _ g1, g2⟩
  · rcases hx.less bm x q with q | q | q
    · exact G.noS x q
    · exact hno x q
    · omega

end
end Go.Proofs.D
