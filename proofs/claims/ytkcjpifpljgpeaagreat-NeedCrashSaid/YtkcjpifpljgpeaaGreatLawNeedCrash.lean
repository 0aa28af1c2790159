/- The law NeedCrash holds: its row, out of the contract of its function and the plain law. -/
import Derived.Test.YtkcjpifpljgpeaaGreatRows
import Derived.Test.YtkcjpifpljgpeaaGreatFnNcr
import Derived.Test.YtkcjpifpljgpeaaGreatAllNeedCrash
import Derived.WalkKit
import Derived.ProofKit
import Derived.OpenShut
import Derived.ShutString
import Derived.ChangeOld
import Derived.Below
import Derived.SizedLaws
import Derived.Carry
import Derived.Handed
import Derived.KernelRfl
set_option linter.unusedVariables false
namespace Go.Proofs.YtkcjpifpljgpeaaGreat.needCrash
open Go.ChangeShapes Go.WideShapes Go.ChangeAt Go.RowKit Go.Proofs.D Go.Proofs.F

theorem own : ownKnob Tryz.prog.godebug = none := by kernel_rfl
theorem laidOut : laidOutB Tryz.prog = true := by kernel_rfl
set_option maxRecDepth 100000 in
theorem lifted (os : Os) (started : os.Started) (H : Type) (enc : TypeId × Value → H) :
    ReturnsInHanded {} Tryz.checked os 5 .any (Rows.needCrashSpec.pre6 enc Tryz.prog Tryz.f5 Rows.needCrashRow.domain false) (Rows.needCrashSpec.post enc Tryz.prog Tryz.f5 false true false false) := by
  refine returnsInHanded_of_change_sized (C := Tryz.checked) own started (by kernel_rfl) Tryz.func5
    (ChangeSpec.witness6 (enc := enc) (C := Tryz.checked) false ⟨#[], #[shutV (K.isAgg kPlay) (zcells kPlay), shutV (K.isAgg (.int .u8)) (zcells (.int .u8))], []⟩ 8 (by kernel_rfl) (by kernel_rfl) (by kernel_rfl) (by kernel_rfl)) ?_
  intro W base args ds gs before hval0 hW hcnd hsz0 _
  have hval : ∀ (j : Nat) t v, Tryz.f5.params[j]? = some t → args[j]? = some v → Value.okWide Tryz.prog W .any base t v := hval0
  have hW1 := hW
  obtain ⟨p, q, hA0, hV, rfl, hfz, hnd⟩ := hW
  have hA : DataW.TrodAll enc Tryz.prog W 0 (fun _ => true) true Tryz.f5.params.toList args.toList ds p := hA0
  rw [Tryz.params5] at hA hval
  obtain ⟨v0, vs0, d0, ds0, p0, q0, hargs, rfl, rfl, h0, r0⟩ := trodAll_cons hA
  obtain ⟨v1, vs1, d1, ds1, p1, q1, rfl, rfl, rfl, h1, r1⟩ := trodAll_cons r0
  obtain ⟨rfl, rfl, rfl⟩ := trodAll_nil r1
  obtain rfl : args = #[v0, v1] := by cases args; simp_all
  obtain ⟨rfl, rfl⟩ := trodVars_none hV
  have k0 := h0
  have lt0 : ∀ x ∈ p0, x.block < W.heap.size := by obtain ⟨m, hm⟩ := k0; exact DataW.trod_lt m _ _ _ hm
  obtain ⟨y0, wf0, rv0⟩ := open_arg (m := fun _ => none) tyOk (c := kPlay) (by kernel_rfl) (t := 29) rfl (hval 0 29 v0 rfl rfl) h0
  have k1 := h1
  have lt1 : ∀ x ∈ p1, x.block < W.heap.size := by obtain ⟨m, hm⟩ := k1; exact DataW.trod_lt m _ _ _ hm
  obtain ⟨y1, wf1, rv1⟩ := open_arg (m := fun _ => none) tyOk (c := (.int .u8)) (by kernel_rfl) (t := 5) rfl (hval 1 5 v1 rfl rfl) h1
  clear hA0 hval0 hsz0
  have hc := law_calls (w := W) pledgelaw21_NeedCrash.ok Tryz.func5 (by kernel_rfl) (by kernel_rfl) (x := (y0, (y1, ()))) (vals := [v0, v1]) ⟨v0, [v1], rfl, rv0, ⟨v1, [], rfl, rv1, rfl⟩⟩ (Pure.NeedCrash y0 y1 wf0 wf1)
  refine hc.mono fun e W2 ⟨he, bel⟩ => ?_
  subst he
  exact ⟨_, rfl, _, _, _, [], _, [], hW1, trodAll_mk1 (shut_bool Tryz.underlying4 _), (trodAll_cons_mk (Below.trod laidOut (by kernel_rfl) (of_decide_eq_true (by kernel_rfl)) k0 bel lt0) (trodAll_cons_mk (Below.trod laidOut (by kernel_rfl) (of_decide_eq_true (by kernel_rfl)) k1 bel lt1) trodAll_mk0)), rfl, bel.frame _, fun h => by cases h⟩
theorem over : Rows.needCrashRow.holds Tryz.pinned (OpenSpec.ofChange Rows.needCrashSpec) :=
  OpenClaim.holds_of_wide 5 Tryz.f5 rfl rfl rfl rfl rfl rfl rfl ⟨rfl, rfl, rfl, rfl, rfl⟩ rfl rfl rfl rfl rfl (by kernel_rfl) Tryz.func5 (by kernel_rfl)
    (of_decide_eq_true (by kernel_rfl)) (by unfold Func.isWrapper; first | (rw [if_pos (by decide +kernel)]; kernel_rfl) | (rw [if_neg (by decide +kernel)]; exact ⟨rfl, rfl⟩))
    (fun os started H enc _ => lifted os started H enc)
end Go.Proofs.YtkcjpifpljgpeaaGreat.needCrash
namespace Go.Proofs.YtkcjpifpljgpeaaGreat
/-- The law holds. -/
theorem needCrash_holds : Rows.NeedCrashSaid := needCrash.over
#print axioms needCrash_holds
end Go.Proofs.YtkcjpifpljgpeaaGreat
