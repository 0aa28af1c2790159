/- A loop that groups: parts[x.Key] = append(parts[x.Key], x.Delta). -/
import Derived.Test.YtmmhjcimijfipaaGreatDGroup
set_option linter.unusedVariables false
set_option linter.unusedSimpArgs false
namespace Go.Proofs.D
open Go.RowKit

abbrev kI : K := .int .i64
abbrev Es (kk : K) := List (El kk × List Int)
def gB {kk : K} (b0 : Bool) (xs : List (El (eOp kk))) (n i : Int) : List (Nat × T) := [(2, .nils (eOp kk)), (3, .val .bool b0), (4, .mapr 0), (13, .val (.slice (eOp kk)) xs), (14, .val kI n), (15, .val kI i)]
section
variable {kk : K} {es es' : Es kk}
end

section
variable {P : Program} {C : Ctx} {fn : Func} {kk : K} {t tk tv : TypeId} {a a' : Act} {w w' : World} {S S' : Cells} {m m' : Nat → Option MB} {O0 : Cells} {w0 : World} {S0 : Cells} {m0 : Nat → Option MB}

/-- The map, in memory: its values are the rows' headers. -/
structure Grp (w : World) (S : Cells) (m : Nat → Option MB) (bm : Nat) (es : Es kk) (hs : List (El kk × El .hdr)) (fs : Array MapEntry) (clock : Nat) : Prop where
  um : ∃ um, m 0 = some um ∧ um.hv = .map (some bm) ∧ um.b = bm
  hb : w.heap[bm]? = some (.map fs clock)
  hM : MapL w S kk .hdr hs fs.toList
  hB : Born fs clock
  keys : hs.map (·.1) = es.map (·.1)
  rows : ∀ j p, hs[j]? = some p → ∃ u, m (100000 + j) = some u ∧ u.hv = p.2
  noS : ∀ x, ¬ S bm x

/-- What is not owned stands while the operations run. -/
theorem Grp.step {s : St} {O' : Cells} {bm : Nat} {es : Es kk} {hs : List (El kk × El .hdr)} {fs : Array MapEntry} {clock : Nat} (G : Grp w S m bm es hs fs clock) (h : At C 0 O0 w0 S0 m0 s a w S m) (hm : ∀ i o, s.sto i = some o → o.isMap = false)
    (hx : Ext (OwnSt s.sto m) w S m w' S' m' O') : Grp w' S' m' bm es hs fs clock := by
  have hno := h.notOwn hm G.hb rfl
  have hlt := (Array.getElem?_eq_some_iff.1 G.hb).1
  obtain ⟨um, u1, u2, u3⟩ := G.um
  refine ⟨⟨um, hx.maps _ _ u1, u2, u3⟩, (hx.block bm hlt hno).trans G.hb, G.hM.keep (Keeps.of_ext h.rel.toStoRel hx), G.hB, G.keys, fun j p hp => ?_, fun x q => ?_⟩
  · obtain ⟨u, g1, g2⟩ := G.rows j p hp
    exact ⟨u, hx.maps _ _ g1, g2⟩
  · rcases hx.less bm x q with q | q | q
    · exact G.noS x q
    · exact hno x q
    · omega

end
end Go.Proofs.D
