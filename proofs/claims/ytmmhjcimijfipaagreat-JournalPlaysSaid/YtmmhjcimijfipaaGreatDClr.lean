/- slices.DeleteFunc: what is left of a row is cleared. -/
import Derived.Test.YtmmhjcimijfipaaGreatDDel
set_option linter.unusedVariables false
set_option linter.unusedSimpArgs false
namespace Go.Proofs.D
open Go.RowKit

section
variable {P : Program} {C : Ctx} {a : Act} {w : World} {S : Cells} {m m' : Nat → Option MB} {σ : Nat → Option Obj}

/-- A row of one's own turns, as long as it was. -/
theorem StoRel.turnRow (h : StoRel σ w S m) {id : Nat} {u : MB} {e : K} {l l2 : List (El e)} {ad : Addr} {cap : Nat} (hs : σ id = some (.row e false l)) (hu : m id = some u) (hv : u.hv = .slice (some ad) l.length cap)
    {W : World} (hT : Touch (fun b y => b = u.b ∧ u.o ≤ y ∧ y < u.o + cap * e.size) w W) (hl2 : l2.length = l.length)
    (hrow : ∀ i x, l2[i]? = some x → ∃ cs, cs.length = e.size ∧ W.rangeAt u.b (u.o + i * e.size) cs ∧ Rep w S e x cs)
    (hlive : ∀ y, u.o ≤ y → y < u.o + cap * e.size → (W.cell? ⟨u.b, y, none⟩).isSome = true ∧ W.frozen? ⟨u.b, y, none⟩ = false) :
    Step1 σ w S m (fun i => bif Nat.beq i id then some (.row e false l2) else σ i) W S m := by
  obtain ⟨u', h1, h2⟩ := h.sto id _ hs
  rw [hu] at h1; cases h1
  have hobj := h2
  obtain ⟨A', cap', g0, g1, g2, g3, g4, g5, g6⟩ := h2
  rw [hv] at g0; cases g0
  have hk : Keeps w S W S := hT.keeps (fun b y hS hF => h.stab id _ u hs hu b y hS ((own_all hv).2 hF)) fun _ _ q => q
  have hOJ : OwnJ (fun i => i = id) σ m = Own u (.row e false l) := by
    funext b y; apply propext; constructor
    · rintro ⟨i, o, u', ei, h5, h6, h7⟩
      subst ei; rw [hs] at h5; cases h5; rw [hu] at h6; cases h6; exact h7
    · exact fun q => ⟨id, _, u, rfl, hs, hu, q⟩
  have hOwn : ∀ b y, Own u (.row e false l2) b y → Own u (.row e false l) b y := fun b y q => (own_all hv).2 ((own_all hv).1 q)
  obtain ⟨k1, k2, k3⟩ := h.change (J := fun i => i = id) (F := fun b y => b = u.b ∧ u.o ≤ y ∧ y < u.o + cap * e.size) (σ' := fun i => bif Nat.beq i id then some (.row e false l2) else σ i) (m' := m) (S' := S)
    (fun i hi => upd_ne hi) (fun _ _ q => q) hT (fun b y hF _ => by rw [hOJ]; exact (own_all hv).2 hF) (fun _ _ q => q) (fun b y q => .inl q)
    (fun i o hi ho => by
      subst hi
      rw [upd_eq] at ho; cases ho
      refine ⟨u, hu, ⟨some ad, cap, by rw [hv, hl2], by omega, g2, (fun q => by cases q), g4, fun k y hy => ?_, fun y hy => ?_⟩, fun b y hy => ⟨.inr (by rw [hOJ]; exact hOwn b y hy), fun q => h.stab i _ u hs hu b y q (hOwn b y hy)⟩⟩
      · obtain ⟨cs, q1, q2, q3⟩ := hrow k y hy
        exact ⟨cs, q1, q2, q3.keep hk, fun q => by cases q⟩
      · obtain ⟨_, q2, q3⟩ := (own_all hv).1 hy
        exact hlive y q2 q3)
    (fun i j o p u v hi hj hij => absurd (hi.trans hj.symm) hij)
  exact ⟨k1, k2, k3⟩

end
end Go.Proofs.D
