/- Keys, in order. -/
import Derived.Test.YtlmponhpepcllaaFnTab
import Derived.Test.YtlmponhpepcllaaPLib
import Derived.Test.YtlmponhpepcllaaDOpen
set_option linter.unusedVariables false
namespace Go.Proofs.Pure
open Go.Proofs.D Go.Proofs.F

abbrev KE := Int × Int × Int × Unit
abbrev OpE := KE × Int × Unit

theorem eqK_refl (a : KE) : eqE kKey a a = true := by
  show ((a.1 == a.1) && ((a.2.1 == a.2.1) && ((a.2.2.1 == a.2.2.1) && true))) = true
  simp
theorem eqK_iff {a b : KE} : eqE kKey a b = true ↔ a = b := ⟨fun h => eqE_eq (c := kKey) rfl h, fun h => by rw [h]; exact eqK_refl b⟩
theorem eqK_ne {a b : KE} (h : a ≠ b) : eqE kKey a b = false := by
  cases hq : eqE kKey a b with
  | false => rfl
  | true => exact absurd (eqK_iff.1 hq) h
theorem eqO_iff {a b : OpE} : eqE kOp a b = true ↔ a = b := ⟨fun h => eqE_eq (c := kOp) rfl h, fun h => by
  rw [h]
  show (eqE kKey b.1 b.1 && ((b.2.1 == b.2.1) && true)) = true
  rw [eqK_refl]; simp⟩

theorem lt_asymm {a b : KE} (h : ltOf cmp3 a b = true) : ltOf cmp3 b a = false := by
  cases hq : ltOf cmp3 b a with
  | false => rfl
  | true => have := swo3.trans a b a h hq; rw [swo3.irrefl] at this; cases this
theorem sorted_nodup {ks : List KE} (h : ks.Pairwise fun a b => ltOf cmp3 a b = true) : ks.Nodup := h.imp fun {a b} q e => by
  subst e; rw [swo3.irrefl] at q; cases q
theorem sorted_unique {ks ks' : List KE} (h : ks.Pairwise fun a b => ltOf cmp3 a b = true) (h' : ks'.Pairwise fun a b => ltOf cmp3 a b = true) (hm : ∀ k, k ∈ ks ↔ k ∈ ks') : ks = ks' := by
  refine List.Perm.eq_of_pairwise (le := fun a b => ltOf cmp3 a b = true) (fun a b _ _ h1 h2 => ?_) h h' ((List.perm_ext_iff_of_nodup (sorted_nodup h) (sorted_nodup h')).2 hm)
  rw [lt_asymm h1] at h2; cases h2
end Go.Proofs.Pure
