/- Rows of one's own that are turned in their place: slices.Delete. -/
import Derived.Test.YtmmhjcimijfipaaGreatDScope
import Derived.KernelRfl
import Derived.WalkKit
import Derived.Deep.RegionLaw
import Derived.Deep.LoopGhost
import Derived.Shelf.RegionOpenPlain
import Derived.Lib.Walk
import Derived.Lib.SliceRun
set_option linter.unusedVariables false
set_option linter.unusedSimpArgs false
namespace Go.Proofs.D
open Go.RowKit

section
variable {P : Program} {C : Ctx} {w : World} {S : Cells} {m m' : Nat → Option MB} {σ : Nat → Option Obj}

theorem own_all {u : MB} {e : K} {l : List (El e)} {ad : Addr} {n cap : Nat} (hv : u.hv = .slice (some ad) n cap) {b y : Nat} : Own u (.row e false l) b y ↔ b = u.b ∧ u.o ≤ y ∧ y < u.o + cap * e.size := by
  constructor
  · rintro ⟨n', cap', a', q1, q2, q3, q4, _⟩
    rw [hv] at q1; cases q1
    exact ⟨q2, q3, q4⟩
  · rintro ⟨q1, q2, q3⟩
    exact ⟨n, cap, ad, hv, q1, q2, q3, fun q => by cases q⟩

/-! ### Cells that are cleared -/
/-! ### slices.Delete -/
theorem StoRel.only {o : Obj} {i : Nat} (h : StoRel σ w S m) (hi : σ i = some o) (ho : ∀ j, j ≠ i → σ j = none) (hcell : ∀ c fz t, o ≠ .cell c fz t) : StoRel σ w S (fun j => if j = i then m i else none) := by
  refine ⟨fun j p hj => ?_, fun j k p q u v hjk hj hk => ?_, fun j p u hj hu b x hS hO => ?_, h.live⟩
  · by_cases e : j = i
    · subst e
      obtain ⟨u, h1, h2⟩ := h.sto j p hj
      refine ⟨u, by simp [h1], ?_⟩
      rw [hi] at hj; cases hj
      cases o with
      | cell c fz t => exact absurd rfl (hcell c fz t)
      | row e sh l => exact h2
      | map k v es => exact h2
    · rw [ho j e] at hj; cases hj
  · by_cases e : j = i
    · by_cases e2 : k = i
      · exact absurd (e.trans e2.symm) hjk
      · rw [ho k e2] at hk; cases hk
    · rw [ho j e] at hj; cases hj
  · by_cases e : j = i
    · subst e
      simp only [if_true] at hu
      exact h.stab j p u hj hu b x hS hO
    · rw [ho j e] at hj; cases hj

end
end Go.Proofs.D
