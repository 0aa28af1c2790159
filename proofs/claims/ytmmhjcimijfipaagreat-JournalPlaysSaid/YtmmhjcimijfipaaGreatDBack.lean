/- slices.Backward's function, called with a loop's yield. -/
import Derived.Test.YtmmhjcimijfipaaGreatDRange
set_option linter.unusedVariables false
set_option linter.unusedSimpArgs false
namespace Go.Proofs.D
open Go.RowKit

def b3 (f : Func) (i : Nat) : Oper := (rops (bodyOf f) 3).toList.getD i default
def keepsT (l : List Oper) (t : Nat) : Bool := l.all fun o => decide (o.dst ≠ some t)

section
variable {P : Program} {C : Ctx} {gf : FuncId} {fn : Func} {e : K} {ts : Array TypeId} {a a' : Act} {w w' : World} {S S' : Cells} {m m' : Nat → Option MB}

theorem Ext.grown0 {E : List (Nat × T)} {d : List Nat} {O' : Cells} (h : Ext (OwnSt (mkS E [] d).sto m) w S m w' S' m' O') : Gr w w' none :=
  ⟨⟨h.os, h.tape.1, h.output, h.size, fun k hk _ => h.block k hk fun x ⟨i, o, u, q, _⟩ => by cases q⟩, h.tape.2⟩
theorem At.slot {C : Ctx} {O0 : Cells} {w0 : World} {S0 : Cells} {m0 : Nat → Option MB} {E : List (Nat × T)} {O : List (Nat × Obj)} {d : List Nat} (h : At C 0 O0 w0 S0 m0 (mkS E O d) a w S m) (t : Nat) : RepV w S m (envL E t) (a.tmps.getD t undef) := h.rel.env t

theorem evalOps_bare (hC : CtxOk P C) {Q : Exit → Act → World → Prop} {ops : Array Oper} {rest : List Nat} {l : List Oper} {k : Nat} {E E' : List (Nat × T)} {d' ke : List Nat} (hl : ∀ j x, l[j]? = some x → ops[k + j]? = some x)
    (hT : TmOk C a) (hS : ∀ b x, S b x → b < w.heap.size) (hE : ∀ p ∈ E, RepV w S (fun _ => none) p.2 (a.tmps.getD p.1 undef))
    (he : evalOps C ops.toList l (mkS E [] []) (fun sF => some (facts ke [] sF)) = some (told E' [] d')) (hke : E'.map (·.1) = ke)
    (h : ∀ a' w' S' m', (∀ t, RepV w' S' m' (envL E' t) (a'.tmps.getD t undef)) → TmOk C a' → Gr w w' none → Same a a' l → wpOpsIn (Fr none) 0 P ops Q rest a' w') :
    wpOpsIn (Fr none) 0 P ops Q (List.range' k l.length ++ rest) a w := by
  have hA := At.bare hS hT hE
  have hw : a = withD [] a := (withD_self hT.2).symm
  rw [hw]
  refine evalOps_in hC rfl l k hl hA.rel hT he fun s' a' w' S' m' g1 g2 g3 g4 g5 => ?_
  rw [withD_self g3.2]
  simp only [facts, told, Option.some.injEq, Prod.mk.injEq] at g1
  obtain ⟨f1, f2, f3⟩ := g1
  subst hke
  rw [List.map_map] at f1
  refine h a' w' S' m' (fun t => ?_) g3 (Ext.grown0 g4) g5
  rcases envL_or (map_at (f := s'.env ∘ fun p : Nat × T => p.1) (g := fun p => p.2) f1) t with q | q
  · exact .inl q
  · rw [q]; exact g2.env t

theorem opsIn_cons {F : Fence} {n : Nat} {ops : Array Oper} {i : Nat} {rest : List Nat} {o : Oper} {Q : Exit → Act → World → Prop} (ho : ops[i]? = some o) (hg : o.guard = none) (h : o.wpIn F n P a w (wpOpsIn F n P ops Q rest) Q) : wpOpsIn F n P ops Q (i :: rest) a w := by
  unfold wpOpsIn
  rw [ho]
  simp only [Region.wanted, hg, if_true]
  exact h

end
end Go.Proofs.D
