/- The law JournalNil holds: its row, out of the contract of its function and the plain law. -/
import Derived.Test.YtnmpidmmhmphkaaRows
import Derived.Test.YtnmpidmmhmphkaaFnJnl
import Derived.Test.YtnmpidmmhmphkaaPureJournalNil
import Derived.WalkKit
import Derived.ProofKit
import Derived.OpenShut
import Derived.ShutString
import Derived.ChangeOld
import Derived.Below
import Derived.SizedLaws
import Derived.Carry
import Derived.Handed
import Derived.KernelRfl
set_option linter.unusedVariables false
namespace Go.Proofs.Ytnmpidmmhmphkaa.journalNil
open Go.ChangeShapes Go.WideShapes Go.ChangeAt Go.RowKit Go.Proofs.D Go.Proofs.F

theorem own : ownKnob Try.prog.godebug = none := by kernel_rfl
theorem laidOut : laidOutB Try.prog = true := by kernel_rfl
set_option maxRecDepth 100000 in
theorem lifted (os : Os) (started : os.Started) (H : Type) (enc : TypeId × Value → H) :
    ReturnsInHanded {} Try.checked os 8 .any (Rows.journalNilSpec.pre6 enc Try.prog Try.f8 Rows.journalNilRow.domain false) (Rows.journalNilSpec.post enc Try.prog Try.f8 false true false false) := by
  refine returnsInHanded_of_change_sized (C := Try.checked) own started (by kernel_rfl) Try.func8
    (ChangeSpec.witness6 (enc := enc) (C := Try.checked) false ⟨#[], #[shutV (K.isAgg kRec) (zcells kRec), shutV (K.isAgg (.int .u32)) (zcells (.int .u32))], []⟩ 8 (by kernel_rfl) (by kernel_rfl) (by kernel_rfl) (by kernel_rfl)) ?_
  intro W base args ds gs before hval0 hW hcnd hsz0 _
  have hval : ∀ (j : Nat) t v, Try.f8.params[j]? = some t → args[j]? = some v → Value.okWide Try.prog W .any base t v := hval0
  have hW1 := hW
  obtain ⟨p, q, hA0, hV, rfl, hfz, hnd⟩ := hW
  have hA : DataW.TrodAll enc Try.prog W 0 (fun _ => true) true Try.f8.params.toList args.toList ds p := hA0
  rw [Try.params8] at hA hval
  obtain ⟨v0, vs0, d0, ds0, p0, q0, hargs, rfl, rfl, h0, r0⟩ := trodAll_cons hA
  obtain ⟨v1, vs1, d1, ds1, p1, q1, rfl, rfl, rfl, h1, r1⟩ := trodAll_cons r0
  obtain ⟨rfl, rfl, rfl⟩ := trodAll_nil r1
  obtain rfl : args = #[v0, v1] := by cases args; simp_all
  obtain ⟨rfl, rfl⟩ := trodVars_none hV
  have k0 := h0
  have lt0 : ∀ x ∈ p0, x.block < W.heap.size := by obtain ⟨m, hm⟩ := k0; exact DataW.trod_lt m _ _ _ hm
  obtain ⟨y0, wf0, rv0⟩ := open_arg (m := fun _ => none) tyOk (c := kRec) (by kernel_rfl) (t := 53) rfl (hval 0 53 v0 rfl rfl) h0
  have k1 := h1
  have lt1 : ∀ x ∈ p1, x.block < W.heap.size := by obtain ⟨m, hm⟩ := k1; exact DataW.trod_lt m _ _ _ hm
  obtain ⟨y1, wf1, rv1⟩ := open_arg (m := fun _ => none) tyOk (c := (.int .u32)) (by kernel_rfl) (t := 47) rfl (hval 1 47 v1 rfl rfl) h1
  clear hA0 hval0 hsz0
  have hc := law_calls (w := W) pledgelaw19_JournalNil.ok Try.func8 (by kernel_rfl) (by kernel_rfl) (x := (y0, (y1, ()))) (vals := [v0, v1]) ⟨v0, [v1], rfl, rv0, ⟨v1, [], rfl, rv1, rfl⟩⟩ (Pure.JournalNil y0 y1 wf0 wf1)
  refine hc.mono fun e W2 ⟨he, bel⟩ => ?_
  subst he
  exact ⟨_, rfl, _, _, _, [], _, [], hW1, trodAll_mk1 (shut_bool Try.underlying4 _), (trodAll_cons_mk (Below.trod laidOut (by kernel_rfl) (of_decide_eq_true (by kernel_rfl)) k0 bel lt0) (trodAll_cons_mk (Below.trod laidOut (by kernel_rfl) (of_decide_eq_true (by kernel_rfl)) k1 bel lt1) trodAll_mk0)), rfl, bel.frame _, fun h => by cases h⟩
theorem over : Rows.journalNilRow.holds Try.pinned (OpenSpec.ofChange Rows.journalNilSpec) :=
  OpenClaim.holds_of_wide 8 Try.f8 rfl rfl rfl rfl rfl rfl rfl ⟨rfl, rfl, rfl, rfl, rfl⟩ rfl rfl rfl rfl rfl (by kernel_rfl) Try.func8 (by kernel_rfl)
    (of_decide_eq_true (by kernel_rfl)) (by unfold Func.isWrapper; first | (rw [if_pos (by decide +kernel)]; kernel_rfl) | (rw [if_neg (by decide +kernel)]; exact ⟨rfl, rfl⟩))
    (fun os started H enc _ => lifted os started H enc)
end Go.Proofs.Ytnmpidmmhmphkaa.journalNil
namespace Go.Proofs.Ytnmpidmmhmphkaa
/-- The law holds. -/
theorem journalNil_holds : Rows.JournalNilSaid := journalNil.over
#print axioms journalNil_holds
end Go.Proofs.Ytnmpidmmhmphkaa
