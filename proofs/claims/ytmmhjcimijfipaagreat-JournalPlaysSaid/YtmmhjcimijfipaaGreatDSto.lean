/- Steps of the store: some objects turn, the others stand. -/
import Derived.Test.YtmmhjcimijfipaaGreatDPart
set_option linter.unusedVariables false
set_option linter.unusedSimpArgs false
namespace Go.Proofs.D
open Go.RowKit

theorem cell_lt {w : World} {a : Addr} {v : Value} (h : w.cell? a = some v) : a.block < w.heap.size := by
  unfold World.cell? at h
  cases hb : w.heap[a.block]? with
  | none => simp [hb] at h
  | some o => exact (Array.getElem?_eq_some_iff.1 hb).1

theorem ObjOk.own_lt {w : World} {S : Cells} {m : Nat → Option MB} {u : MB} {o : Obj} (h : ObjOk w S m u o) {b x : Nat} (hx : Own u o b x) : b < w.heap.size := by
  cases o with
  | cell c fz t =>
    obtain ⟨-, -, hf, cs, h1, h2, -⟩ := h
    obtain ⟨-, hb, h3, h4⟩ := hx
    subst hb
    have hl := RepC.length hf h2
    obtain ⟨v, hv⟩ : ∃ v, cs[x - u.o]? = some v := ⟨cs[x - u.o]'(by omega), List.getElem?_eq_getElem (by omega)⟩
    exact cell_lt (h1 _ v hv)
  | row e sh l =>
    obtain ⟨A, cap, -, -, -, -, -, -, h2⟩ := h
    have hb : b = u.b := by obtain ⟨n, cap, a, _, hb, _⟩ := hx; exact hb
    subst hb
    have := (h2 x hx).1
    obtain ⟨v, hv⟩ := Option.isSome_iff_exists.1 this
    exact cell_lt hv
  | map kc vc es =>
    obtain ⟨-, -, fs, clock, h1, -⟩ := h
    have hb : b = u.b := hx
    subst hb
    exact (Array.getElem?_eq_some_iff.1 h1).1

/-- All but these cells (and new blocks) is as it was. -/
structure Touch (F : Cells) (w w' : World) : Prop where
  os : w'.os = w.os
  tape : Tape w w'
  output : w'.output = w.output
  size : w.heap.size ≤ w'.heap.size
  cell : ∀ b x, b < w.heap.size → ¬ F b x → w'.cell? ⟨b, x, none⟩ = w.cell? ⟨b, x, none⟩ ∧ w'.frozen? ⟨b, x, none⟩ = w.frozen? ⟨b, x, none⟩
  block : ∀ b, b < w.heap.size → (∀ x, ¬ F b x) → w'.heap[b]? = w.heap[b]?

theorem Touch.refl (F : Cells) (w : World) : Touch F w w := ⟨rfl, Tape.refl w, rfl, Nat.le_refl _, fun _ _ _ _ => ⟨rfl, rfl⟩, fun _ _ _ => rfl⟩
theorem Touch.keeps {F : Cells} {w w' : World} {S S' : Cells} (h : Touch F w w') (hF : ∀ b x, S b x → ¬ F b x) (hS : ∀ b x, S b x → S' b x) : Keeps w S w' S' :=
  ⟨hS, fun b o v hs hv => by rw [(h.cell b o (cell_lt hv) (hF b o hs)).1]; exact hv⟩
theorem Touch.trans {F : Cells} {w w1 w2 : World} (h : Touch F w w1) (k : Touch F w1 w2) : Touch F w w2 where
  os := k.os.trans h.os
  tape := h.tape.trans k.tape
  output := k.output.trans h.output
  size := Nat.le_trans h.size k.size
  cell := fun b x hb hx => by
    obtain ⟨a1, a2⟩ := h.cell b x hb hx
    obtain ⟨b1, b2⟩ := k.cell b x (Nat.lt_of_lt_of_le hb h.size) hx
    exact ⟨b1.trans a1, b2.trans a2⟩
  block := fun b hb hx => (k.block b (Nat.lt_of_lt_of_le hb h.size) hx).trans (h.block b hb hx)
theorem Touch.mono {F F' : Cells} {w w' : World} (h : Touch F w w') (hF : ∀ b x, F b x → F' b x) : Touch F' w w' :=
  ⟨h.os, h.tape, h.output, h.size, fun b x hb hx => h.cell b x hb fun q => hx (hF b x q), fun b hb hx => h.block b hb fun x q => hx x (hF b x q)⟩

theorem rangeAt_same {w w' : World} {b o : Nat} {cs : List Value} (h : w.rangeAt b o cs) (k : ∀ j, j < cs.length → w'.cell? ⟨b, o + j, none⟩ = w.cell? ⟨b, o + j, none⟩) : w'.rangeAt b o cs :=
  fun j v hj => by rw [k j (List.getElem?_eq_some_iff.1 hj).1]; exact h j v hj

/-- An object whose own cells stand is what it was. -/
theorem ObjOk.keep {w w' : World} {S S' : Cells} {m m' : Nat → Option MB} {u : MB} {o : Obj} (h : ObjOk w S m u o) (k : Keeps w S w' S') (hm : ∀ i u, m i = some u → m' i = some u)
    (hc : ∀ b x, Own u o b x → w'.cell? ⟨b, x, none⟩ = w.cell? ⟨b, x, none⟩ ∧ w'.frozen? ⟨b, x, none⟩ = w.frozen? ⟨b, x, none⟩) (hb : (∀ x, Own u o u.b x) → w'.heap[u.b]? = w.heap[u.b]?) : ObjOk w' S' m' u o := by
  cases o with
  | cell c fz t =>
    obtain ⟨h0, h1, hf, cs, h2, h3, h4, h5⟩ := h
    have hl := RepC.length hf h3
    refine ⟨h0, h1, hf, cs, ?_, h3.keep k hm, fun hz j hj => ?_, fun hz j hj => k.more _ _ (h5 hz j hj)⟩
    · cases fz with
      | true => exact fun j v hj => k.cell _ _ v (h5 rfl j (by have := (List.getElem?_eq_some_iff.1 hj).1; omega)) (h2 j v hj)
      | false => exact rangeAt_same h2 fun j hj => (hc _ _ ⟨rfl, rfl, by omega, by omega⟩).1
    · subst hz
      rw [(hc _ _ ⟨rfl, rfl, by omega, by omega⟩).2]; exact h4 rfl j hj
  | row e sh l =>
    obtain ⟨A, cap, h0, h1, h2, h3, h4, h5, h6⟩ := h
    refine ⟨A, cap, h0, h1, h2, h3, h4, fun i x hx => ?_, fun x hx => ?_⟩
    · obtain ⟨cs, h7, h8, h9, h10⟩ := h5 i x hx
      have hi := (List.getElem?_eq_some_iff.1 hx).1
      refine ⟨cs, h7, ?_, h9.keep k, fun hz j hj => k.more _ _ (h10 hz j hj)⟩
      cases sh with
      | true => exact fun j v hj => k.cell _ _ v (h10 rfl j (by have := (List.getElem?_eq_some_iff.1 hj).1; omega)) (h8 j v hj)
      | false =>
        refine rangeAt_same h8 fun j hj => (hc _ _ ?_).1
        cases hA : A with
        | none => have := h3 hA; omega
        | some a =>
          subst hA
          refine ⟨l.length, cap, a, h0, rfl, by omega, ?_, fun hz => by cases hz⟩
          have : i * e.size + e.size ≤ cap * e.size := by rw [← Nat.succ_mul]; exact Nat.mul_le_mul_right _ (by omega)
          omega
    · obtain ⟨h7, h8⟩ := hc _ _ hx
      rw [h7, h8]; exact h6 x hx
  | map kc vc es =>
    obtain ⟨h0, h1, fs, clock, h2, h3⟩ := h
    exact ⟨h0, h1, fs, clock, by rw [hb fun x => rfl]; exact h2, h3.1.keep k, h3.2⟩

section
variable {σ σ' : Nat → Option Obj} {w w' : World} {S S' : Cells} {m m' : Nat → Option MB}

/-- The cells that some of the objects own. -/
def OwnJ (J : Nat → Prop) (σ : Nat → Option Obj) (m : Nat → Option MB) : Cells := fun b x => ∃ i o u, J i ∧ σ i = some o ∧ m i = some u ∧ Own u o b x

theorem OwnJ.st {J : Nat → Prop} {b x : Nat} (h : OwnJ J σ m b x) : OwnSt σ m b x := let ⟨i, o, u, _, h⟩ := h; ⟨i, o, u, h⟩

theorem StoRel.notS (h : StoRel σ w S m) {b x : Nat} (hs : S b x) : ¬ OwnSt σ m b x := fun ⟨i, o, u, h1, h2, h3⟩ => h.stab i o u h1 h2 b x hs h3

theorem StoRel.own_lt (h : StoRel σ w S m) {b x : Nat} (hx : OwnSt σ m b x) : b < w.heap.size := by
  obtain ⟨i, o, u, h1, h2, h3⟩ := hx
  obtain ⟨u', h4, h5⟩ := h.sto i o h1
  rw [h2] at h4; cases h4
  exact h5.own_lt h3

/-- Some objects (J) turn. -/
theorem StoRel.change {J : Nat → Prop} {F : Cells} (h : StoRel σ w S m)
    (hσ : ∀ i, ¬ J i → σ' i = σ i) (hm : ∀ i u, m i = some u → m' i = some u) (hF : Touch F w w')
    (hFJ : ∀ b x, F b x → b < w.heap.size → OwnJ J σ m b x)
    (hS : ∀ b x, S b x → S' b x) (hS' : ∀ b x, S' b x → S b x ∨ (w.heap.size ≤ b ∧ b < w'.heap.size) ∨ OwnJ J σ m b x)
    (hobj : ∀ i o, J i → σ' i = some o → ∃ u, m' i = some u ∧ ObjOk w' S' m' u o ∧ ∀ b x, Own u o b x → (w.heap.size ≤ b ∨ OwnJ J σ m b x) ∧ ¬ S' b x)
    (hap : ∀ i j o p u v, J i → J j → i ≠ j → σ' i = some o → σ' j = some p → m' i = some u → m' j = some v → ∀ b x, Own u o b x → Own v p b x → False) :
    StoRel σ' w' S' m' ∧ Keeps w S w' S' ∧ Ext (OwnSt σ m) w S m w' S' m' (OwnSt σ' m') := by
  classical
  have hlt : ∀ b x, S b x → b < w.heap.size → ¬ F b x := fun b x hs hb hf => h.notS hs (hFJ b x hf hb).st
  have hk : Keeps w S w' S' := ⟨hS, fun b o v hs hv => by rw [(hF.cell b o (cell_lt hv) (hlt b o hs (cell_lt hv))).1]; exact hv⟩
  -- an object that stands
  have old : ∀ i o, ¬ J i → σ' i = some o → ∃ u, m i = some u ∧ σ i = some o ∧ ObjOk w S m u o := fun i o hi ho => by
    rw [hσ i hi] at ho
    obtain ⟨u, h1, h2⟩ := h.sto i o ho
    exact ⟨u, h1, ho, h2⟩
  have notJ : ∀ i o u, ¬ J i → σ i = some o → m i = some u → ∀ b x, Own u o b x → ¬ OwnJ J σ m b x := fun i o u hi ho hu b x hx hj => by
    obtain ⟨j, p, v, h1, h2, h3, h4⟩ := hj
    exact h.apart i j o p u v (fun e => hi (e ▸ h1)) ho h2 hu h3 b x hx h4
  refine ⟨⟨fun i o ho => ?_, fun i j o p u v hij ho hp hu hv b x hx hy => ?_, fun i o u ho hu b x hs hx => ?_, fun b x hs => ?_⟩, hk, ?_⟩
  · by_cases hi : J i
    · obtain ⟨u, h1, h2, _⟩ := hobj i o hi ho; exact ⟨u, h1, h2⟩
    · obtain ⟨u, h1, h2, h3⟩ := old i o hi ho
      refine ⟨u, hm i u h1, h3.keep hk hm (fun b x hx => ?_) (fun hx => ?_)⟩
      · have hb := h3.own_lt hx
        exact hF.cell b x hb fun hf => notJ i o u hi h2 h1 b x hx (hFJ b x hf hb)
      · have hb := h3.own_lt (hx 0)
        exact hF.block _ hb fun x hf => notJ i o u hi h2 h1 _ x (hx x) (hFJ _ x hf hb)
  · have side : ∀ i j o p u v, J i → ¬ J j → σ' i = some o → σ' j = some p → m' i = some u → m' j = some v → ∀ b x, Own u o b x → Own v p b x → False := by
      intro i j o p u v hi hj ho hp hu hv b x hx hy
      obtain ⟨u', h1, h2, h3⟩ := hobj i o hi ho
      rw [hu] at h1; cases h1
      obtain ⟨v', h4, h5, h6⟩ := old j p hj hp
      have h7 := hm j v' h4
      rw [hv] at h7; cases h7
      rcases (h3 b x hx).1 with h8 | h8
      · have := h6.own_lt hy; omega
      · exact notJ j p v hj h5 h4 b x hy h8
    by_cases hi : J i
    · by_cases hj : J j
      · exact hap i j o p u v hi hj hij ho hp hu hv b x hx hy
      · exact side i j o p u v hi hj ho hp hu hv b x hx hy
    · by_cases hj : J j
      · exact side j i p o v u hj hi hp ho hv hu b x hy hx
      · obtain ⟨u', h1, h2, _⟩ := old i o hi ho
        obtain ⟨v', h3, h4, _⟩ := old j p hj hp
        have h5 := hm i u' h1; rw [hu] at h5; cases h5
        have h6 := hm j v' h3; rw [hv] at h6; cases h6
        exact h.apart i j o p u v hij h2 h4 h1 h3 b x hx hy
  · by_cases hi : J i
    · obtain ⟨u', h1, h2, h3⟩ := hobj i o hi ho
      rw [hu] at h1; cases h1
      exact (h3 b x hx).2 hs
    · obtain ⟨u', h1, h2, h3⟩ := old i o hi ho
      have h5 := hm i u' h1; rw [hu] at h5; cases h5
      rcases hS' b x hs with h4 | h4 | h4
      · exact h.stab i o u h2 h1 b x h4 hx
      · have := h3.own_lt hx; omega
      · exact notJ i o u hi h2 h1 b x hx h4
  · rcases hS' b x hs with h4 | h4 | h4
    · exact Nat.lt_of_lt_of_le (h.live b x h4) hF.size
    · exact h4.2
    · exact Nat.lt_of_lt_of_le (h.own_lt h4.st) hF.size
  · refine ⟨hF.os, hF.tape, hF.output, hF.size, hm, hS, fun b x hs => ?_, fun b x hx => ?_, fun b x hb hx => ?_, fun b hb hx => ?_⟩
    · rcases hS' b x hs with h4 | h4 | h4
      · exact .inl h4
      · exact .inr (.inr h4.1)
      · exact .inr (.inl h4.st)
    · obtain ⟨i, o, u, ho, hu, hx⟩ := hx
      by_cases hi : J i
      · obtain ⟨u', h1, h2, h3⟩ := hobj i o hi ho
        rw [hu] at h1; cases h1
        rcases (h3 b x hx).1 with h4 | h4
        · exact .inr h4
        · exact .inl h4.st
      · obtain ⟨u', h1, h2, _⟩ := old i o hi ho
        have h5 := hm i u' h1; rw [hu] at h5; cases h5
        exact .inl ⟨i, o, u, h2, h1, hx⟩
    · exact hF.cell b x hb fun hf => hx (hFJ b x hf hb).st
    · exact hF.block b hb fun x hf => hx x (hFJ b x hf hb).st

/-- A step of the store. -/
structure Step1 (σ : Nat → Option Obj) (w : World) (S : Cells) (m : Nat → Option MB) (σ' : Nat → Option Obj) (w' : World) (S' : Cells) (m' : Nat → Option MB) : Prop where
  rel : StoRel σ' w' S' m'
  keeps : Keeps w S w' S'
  ext : Ext (OwnSt σ m) w S m w' S' m' (OwnSt σ' m')

theorem Step1.refl (h : StoRel σ w S m) : Step1 σ w S m σ w S m := ⟨h, Keeps.refl .., Ext.refl ..⟩
theorem Step1.trans {σ1 σ2 : Nat → Option Obj} {w1 w2 : World} {S1 S2 : Cells} {m1 m2 : Nat → Option MB} (h : Step1 σ w S m σ1 w1 S1 m1) (k : Step1 σ1 w1 S1 m1 σ2 w2 S2 m2) : Step1 σ w S m σ2 w2 S2 m2 :=
  ⟨k.rel, h.keeps.trans k.keeps, h.ext.trans k.ext⟩

end
end Go.Proofs.D
