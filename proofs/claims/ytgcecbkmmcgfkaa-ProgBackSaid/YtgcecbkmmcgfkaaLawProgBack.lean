/- The law ProgBack holds: its row, out of the contract of its function and the plain law. -/
import Derived.Test.YtgcecbkmmcgfkaaRows
import Derived.Test.YtgcecbkmmcgfkaaFnPby
import Derived.Test.YtgcecbkmmcgfkaaAllProgBack
import Derived.WalkKit
import Derived.ProofKit
import Derived.OpenShut
import Derived.ShutString
import Derived.ChangeOld
import Derived.Below
import Derived.SizedLaws
import Derived.Carry
import Derived.Handed
import Derived.KernelRfl
set_option linter.unusedVariables false
namespace Go.Proofs.Ytgcecbkmmcgfkaa.progBack
open Go.ChangeShapes Go.WideShapes Go.ChangeAt Go.RowKit Go.Proofs.D Go.Proofs.F

theorem own : ownKnob Try.prog.godebug = none := by kernel_rfl
theorem laidOut : laidOutB Try.prog = true := by kernel_rfl
set_option maxRecDepth 100000 in
theorem lifted (os : Os) (started : os.Started) (H : Type) (enc : TypeId × Value → H) :
    ReturnsInHanded {} Try.checked os 4 .any (Rows.progBackSpec.pre6 enc Try.prog Try.f4 Rows.progBackRow.domain false) (Rows.progBackSpec.post enc Try.prog Try.f4 false true false false) := by
  refine returnsInHanded_of_change_sized (C := Try.checked) own started (by kernel_rfl) Try.func4
    (ChangeSpec.witness6 (enc := enc) (C := Try.checked) false ⟨#[], #[shutV (K.isAgg kProgram) (zcells kProgram), shutV (K.isAgg (.slice (.int .u8))) (zcells (.slice (.int .u8)))], []⟩ 8 (by kernel_rfl) (by kernel_rfl) (by kernel_rfl) (by kernel_rfl)) ?_
  intro W base args ds gs before hval0 hW hcnd hsz0 _
  have hval : ∀ (j : Nat) t v, Try.f4.params[j]? = some t → args[j]? = some v → Value.okWide Try.prog W .any base t v := hval0
  have hW1 := hW
  obtain ⟨p, q, hA0, hV, rfl, hfz, hnd⟩ := hW
  have hA : DataW.TrodAll enc Try.prog W 0 (fun _ => true) true Try.f4.params.toList args.toList ds p := hA0
  rw [Try.params4] at hA hval
  obtain ⟨v0, vs0, d0, ds0, p0, q0, hargs, rfl, rfl, h0, r0⟩ := trodAll_cons hA
  obtain ⟨v1, vs1, d1, ds1, p1, q1, rfl, rfl, rfl, h1, r1⟩ := trodAll_cons r0
  obtain ⟨rfl, rfl, rfl⟩ := trodAll_nil r1
  obtain rfl : args = #[v0, v1] := by cases args; simp_all
  obtain ⟨rfl, rfl⟩ := trodVars_none hV
  have k0 := h0
  have lt0 : ∀ x ∈ p0, x.block < W.heap.size := by obtain ⟨m, hm⟩ := k0; exact DataW.trod_lt m _ _ _ hm
  obtain ⟨y0, wf0, rv0⟩ := open_arg (m := fun _ => none) tyOk (c := kProgram) (by kernel_rfl) (t := 26) rfl (hval 0 26 v0 rfl rfl) h0
  have k1 := h1
  have lt1 : ∀ x ∈ p1, x.block < W.heap.size := by obtain ⟨m, hm⟩ := k1; exact DataW.trod_lt m _ _ _ hm
  obtain ⟨y1, wf1, rv1⟩ := open_arg (m := fun _ => none) tyOk (c := (.slice (.int .u8))) (by kernel_rfl) (t := 27) rfl (hval 1 27 v1 rfl rfl) h1
  clear hA0 hval0 hsz0
  have hc := law_calls (w := W) pledgelaw13_ProgBack.ok Try.func4 (by kernel_rfl) (by kernel_rfl) (x := (y0, (y1, ()))) (vals := [v0, v1]) ⟨v0, [v1], rfl, rv0, ⟨v1, [], rfl, rv1, rfl⟩⟩ (Pure.ProgBack y0 y1 wf0 wf1)
  refine hc.mono fun e W2 ⟨he, bel⟩ => ?_
  subst he
  exact ⟨_, rfl, _, _, _, [], _, [], hW1, trodAll_mk1 (shut_bool Try.underlying4 _), (trodAll_cons_mk (Below.trod laidOut (by kernel_rfl) (of_decide_eq_true (by kernel_rfl)) k0 bel lt0) (trodAll_cons_mk (Below.trod laidOut (by kernel_rfl) (of_decide_eq_true (by kernel_rfl)) k1 bel lt1) trodAll_mk0)), rfl, bel.frame _, fun h => by cases h⟩
theorem over : Rows.progBackRow.holds Try.pinned (OpenSpec.ofChange Rows.progBackSpec) :=
  OpenClaim.holds_of_wide 4 Try.f4 rfl rfl rfl rfl rfl rfl rfl ⟨rfl, rfl, rfl, rfl, rfl⟩ rfl rfl rfl rfl rfl (by kernel_rfl) Try.func4 (by kernel_rfl)
    (of_decide_eq_true (by kernel_rfl)) (by unfold Func.isWrapper; first | (rw [if_pos (by decide +kernel)]; kernel_rfl) | (rw [if_neg (by decide +kernel)]; exact ⟨rfl, rfl⟩))
    (fun os started H enc _ => lifted os started H enc)
end Go.Proofs.Ytgcecbkmmcgfkaa.progBack
namespace Go.Proofs.Ytgcecbkmmcgfkaa
/-- The law holds. -/
theorem progBack_holds : Rows.ProgBackSaid := progBack.over
#print axioms progBack_holds
end Go.Proofs.Ytgcecbkmmcgfkaa
