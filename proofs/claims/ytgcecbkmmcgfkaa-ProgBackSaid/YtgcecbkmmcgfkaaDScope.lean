/- A scope with one label ahead of its end: jumps go on behind it. -/
import Derived.Test.YtgcecbkmmcgfkaaDGiven
import Derived.ScopeJumps
set_option linter.unusedVariables false
set_option linter.unusedSimpArgs false
namespace Go.Proofs.D
open Go.RowKit

def scopeG (C : Ctx) (q : Cuts) (c rest : Code) (l : Nat) (hd : StSk) (outs : Outs) (v : StEl hd) : Option (OutEl outs) :=
  eval C q c (fillSt hd v) fun e s => match e with
    | .goto l' => bif Nat.beq l' l then eval C q rest s (fun e s => match e with | .goto _ => none | .normal => unOut q.np outs .normal s | .ret => unOut q.np outs .ret s | .exit i => unOut q.np outs (.exit i) s) else none
    | .normal => unOut q.np outs .normal s | .ret => unOut q.np outs .ret s | .exit i => unOut q.np outs (.exit i) s
def scopeAt : Code → Option Code
  | .scope c => some c
  | .seq a b => (scopeAt a).or (scopeAt b)
  | .block _ c => scopeAt c | .loop c => scopeAt c
  | .cond _ a b => (scopeAt a).or (scopeAt b)
  | _ => none
def scopeC (f : Func) : Code := match scopeAt (bodyOf f) with | some c => c | none => .skip
def scopeR (f : Func) (l : Nat) : Code := match findLabel (scopeC f) l with | some c => c | none => .skip

section
variable {P : Program} {C : Ctx} {q : Cuts}
theorem scope_ok (hC : CtxOk P C) (hm : P.follows .mixedOrders = true) {c rest : Code} {l : Nat} {g : Given} (hf : findLabel c l = some rest) (h1 : GivenIn P C q c) (h2 : GivenIn P C q rest) (hG : (fun v => scopeG C q c rest l g.hd g.outs v) = g.G) : CodeOk P C q.np (.scope c) g := by
  intro O0 w0 S0 m0 v x a w S m hv hA Q hQ
  rw [← hG] at hv
  have hv : scopeG C q c rest l g.hd g.outs v = some x := hv
  unfold scopeG at hv
  have out : ∀ {e : Ex} {s' : St} {a' : Act} {w' : World} {S' : Cells} {m' : Nat → Option MB}, unOut q.np g.outs e s' = some x → At C q.np O0 w0 S0 m0 s' a' w' S' m' → Q e.to a' w' := fun k1 k2 => by
    obtain ⟨kk, yy, g4, g5⟩ := unOut_ok k1
    obtain ⟨S2, m2, g6⟩ := atCut_ok k2 g4
    exact hQ _ _ _ _ _ _ g5 g6
  refine wp_scope_jumps l (fun a w => ∃ s S m, At C q.np O0 w0 S0 m0 s a w S m ∧ eval C q rest s (fun e s => match e with | .goto _ => none | .normal => unOut q.np g.outs .normal s | .ret => unOut q.np g.outs .ret s | .exit i => unOut q.np g.outs (.exit i) s) = some x) (fun _ _ => 0) hf ?_ ?_
  · refine eval_ok hC hm c h1 hv hA _ fun e s' a' w' S' m' k1 k2 => ?_
    cases e with
    | goto l' =>
      obtain ⟨k3, k4⟩ := bif_some k1
      exact ⟨Nat.eq_of_beq_eq_true k3, s', S', m', k2, k4⟩
    | normal => exact out k1 k2
    | ret => exact out k1 k2
    | exit i => exact out k1 k2
  · rintro a1 w1 ⟨s1, S1, m1, k1, k2⟩
    refine eval_ok hC hm rest h2 k2 k1 _ fun e s' a' w' S' m' k3 k4 => ?_
    cases e with
    | goto l' => cases k3
    | normal => exact out k3 k4
    | ret => exact out k3 k4
    | exit i => exact out k3 k4
end
end Go.Proofs.D
