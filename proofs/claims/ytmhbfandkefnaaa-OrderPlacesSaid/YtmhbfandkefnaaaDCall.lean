/- Calls. -/
import Derived.Test.YtmhbfandkefnaaaDUn
set_option linter.unusedVariables false
set_option linter.unusedSimpArgs false
namespace Go.Proofs.D
open Go.RowKit

section
variable {w w' : World} {S S' : Cells} {m m' m2 : Nat → Option MB} {σ σ0 : Nat → Option Obj}

/-- No data that hang on memory. -/
def T.flatT : T → Bool
  | .val c _ => c.flat | .nils _ => false | .rptr _ _ => false | .clo _ s => s.flatT | .pair a b => a.flatT && b.flatT | .tc a b => a.flatT && b.flatT | .tup l => l.flatT | _ => true

theorem flatT_fill : ∀ (s : Sk) (x : SkEl s), s.flat = true → (fill s x).flatT = true
  | .val c, x, h => h | .nils e, x, h => by cases h | .nilr r, x, h => rfl | .row k, x, h => rfl | .ptr k, x, h => rfl | .mapr k, x, h => rfl
  | .clo f s, x, h => flatT_fill s x h | .unit, x, h => rfl
  | .pair a b, x, h => by
    simp only [Sk.flat, Bool.and_eq_true] at h
    simp [fill, T.flatT, flatT_fill a x.1 h.1, flatT_fill b x.2 h.2]
  | .tn, x, h => rfl
  | .tc a b, x, h => by
    simp only [Sk.flat, Bool.and_eq_true] at h
    simp [fill, T.flatT, flatT_fill a x.1 h.1, flatT_fill b x.2 h.2]
  | .tup l, x, h => flatT_fill l x h

theorem RepC.flatT : ∀ {t : T} {cs : List Value}, t.flatT = true → RepC w S m t cs → RepC w S' m t cs
  | .any _, _, _, h => h
  | .und, _, _, h => h
  | .val _ _, _, hf, h => Rep.flat hf h
  | .nils _, _, hf, _ => by cases hf
  | .nilr _, _, _, h => h
  | .ptr _ _, _, _, h => h
  | .row _, _, _, h => h
  | .rptr _ _, _, hf, _ => by cases hf
  | .mapr _, _, _, h => h
  | .clo _ _, _, hf, ⟨vs, h, e⟩ => ⟨vs, RepC.flatT hf h, e⟩
  | .unit, _, _, h => h
  | .pair _ _, _, hf, ⟨c1, c2, e, h1, h2⟩ => by
    simp only [T.flatT, Bool.and_eq_true] at hf
    exact ⟨c1, c2, e, RepC.flatT hf.1 h1, RepC.flatT hf.2 h2⟩
  | .tn, _, _, h => h
  | .tc _ _, _, hf, ⟨v, r, e, h1, h2⟩ => by
    simp only [T.flatT, Bool.and_eq_true] at hf
    exact ⟨v, r, e, h1.imp id fun ⟨cs, h, hs⟩ => ⟨cs, RepC.flatT hf.1 h, hs⟩, RepC.flatT hf.2 h2⟩
  | .tup _, _, hf, ⟨vs, h, e⟩ => ⟨vs, RepC.flatT hf h, e⟩

/-- A numbering goes into another. -/
def Into (ρ : Nat → Option (Nat × List Step)) (m m2 : Nat → Option MB) : Prop :=
  ∀ k id p u, ρ k = some (id, p) → m k = some u → ∃ v, m2 id = some v ∧ u = subM v p ∧ ∃ d, codeAt v.code p = some d

theorem subM_code {v : MB} {p : List Step} {d : K} (h : codeAt v.code p = some d) : (subM v p).code = d := by
  cases p with
  | nil => simp only [codeAt, Option.some.injEq] at h; exact h
  | cons q r => show (codeAt v.code (q :: r)).getD v.code = d; rw [h]; rfl

theorem back_agg (ρ : Nat → Option (Nat × List Step)) : ∀ t : T, (back ρ t).isAgg = t.isAgg
  | .ptr k q => by simp only [back]; cases ρ k with
    | none => rfl
    | some b => rfl
  | .row k => by simp only [back]; cases ρ k with
    | none => rfl
    | some b => obtain ⟨i, p⟩ := b; cases p <;> rfl
  | .mapr k => by simp only [back]; cases ρ k with
    | none => rfl
    | some b => obtain ⟨i, p⟩ := b; cases p <;> rfl
  | .any _ => rfl | .und => rfl | .val _ _ => rfl | .nils _ => rfl | .nilr _ => rfl | .rptr _ _ => rfl | .clo _ _ => rfl | .unit => rfl | .pair _ _ => rfl
  | .tn => rfl | .tc _ _ => rfl | .tup _ => rfl

theorem back_any (ρ : Nat → Option (Nat × List Step)) : ∀ {t : T}, t.isAny = true → (back ρ t).isAny = true
  | .any _, _ => rfl

theorem back_ok {ρ : Nat → Option (Nat × List Step)} (hi : Into ρ m m2) : ∀ {t : T} {cs : List Value}, RepC w S m t cs → RepC w S m2 (back ρ t) cs
  | .any _, _, h => h
  | .und, _, h => h
  | .val _ _, _, h => h
  | .nils _, _, h => h
  | .nilr _, _, h => h
  | .ptr k q, cs, ⟨u, hu, e⟩ => by
    simp only [back]
    cases hk : ρ k with
    | none => subst e; exact ⟨rfl, by simp [Value.oneCell']⟩
    | some b =>
      obtain ⟨id, p⟩ := b
      obtain ⟨v, h1, h2, d, h3⟩ := hi k id p u hk hu
      refine ⟨v, h1, ?_⟩
      rw [e, h2, subM_b, subM_o, subM_code h3, offK_append h3, Nat.add_assoc]
  | .row k, cs, ⟨u, hu, e, A, n, cap, h4⟩ => by
    have anyC : RepC w S m2 (.any 1) cs := by subst e; exact ⟨rfl, by simp [h4, Value.oneCell']⟩
    simp only [back]
    cases hk : ρ k with
    | none => exact anyC
    | some b =>
      obtain ⟨id, p⟩ := b
      cases p with
      | nil =>
        obtain ⟨v, h1, h2, _⟩ := hi k id [] u hk hu
        have h2 : u = v := h2
        subst h2
        exact ⟨u, h1, e, A, n, cap, h4⟩
      | cons q r => exact anyC
  | .rptr _ _, _, h => h
  | .mapr k, cs, ⟨u, hu, e, r0, h4⟩ => by
    have anyC : RepC w S m2 (.any 1) cs := by subst e; exact ⟨rfl, by simp [h4, Value.oneCell']⟩
    simp only [back]
    cases hk : ρ k with
    | none => exact anyC
    | some b =>
      obtain ⟨id, p⟩ := b
      cases p with
      | nil =>
        obtain ⟨v, h1, h2, _⟩ := hi k id [] u hk hu
        have h2 : u = v := h2
        subst h2
        exact ⟨u, h1, e, r0, h4⟩
      | cons q r => exact anyC
  | .clo _ _, _, ⟨vs, h, e⟩ => ⟨vs, back_ok hi h, e⟩
  | .unit, _, h => h
  | .pair _ _, _, ⟨c1, c2, e, h1, h2⟩ => ⟨c1, c2, e, back_ok hi h1, back_ok hi h2⟩
  | .tn, _, h => h
  | .tc a b, _, ⟨v, r, e, h1, h2⟩ => ⟨v, r, e, h1.imp (back_any ρ) fun ⟨cs, h, hs⟩ => ⟨cs, back_ok hi h, by rw [back_agg]; exact hs⟩, back_ok hi h2⟩
  | .tup _, _, ⟨vs, h, e⟩ => ⟨vs, back_ok hi h, e⟩

theorem backV_ok {ρ : Nat → Option (Nat × List Step)} (hi : Into ρ m m2) {t : T} {v : Value} (h : RepV w S m t v) : RepV w S m2 (back ρ t) v :=
  h.imp (back_any ρ) fun ⟨cs, h, hs⟩ => ⟨cs, back_ok hi h, by rw [back_agg]; exact hs⟩

def backO (ρ : Nat → Option (Nat × List Step)) : Option Obj → Option Obj
  | some (.cell c fz t) => some (.cell c fz (back ρ t)) | x => x

theorem upds_snoc (u : Ups) (i : Nat) (o : Option Obj) (σ : Sto) (x : Nat) : upds (u ++ [(i, o)]) σ x = (bif Nat.beq x i then o else upds u σ x) := by
  rw [upds_append]; rfl

/-- What became of the objects. -/
theorem settle_ok {V : Nat → List Value → Prop} {R : Type} {r : R} {ρ : Nat → Option (Nat × List Step)} (hinj : ∀ a b id p q, ρ a = some (id, p) → ρ b = some (id, q) → a = b) :
    ∀ {l : List (Option Obj)} {j : Nat} {u : Ups} {k : Ups → Option R},
      (∀ a c fz t, l[a]? = some (some (.cell c fz t)) → ∀ id p, ρ (j + a) = some (id, p) → p ≠ [] → ∃ vs, V (j + a) vs ∧ RepC w S m2 (back ρ t) vs ∧ ∀ c0 t0, σ id = some (.cell c0 false t0) → t0.fits c0 = true ∧ ∃ d, codeAt c0 p = some d) →
      settle σ ρ j l u k = some r → ∃ v, k v = some r ∧ (∀ i, (∀ a, a < l.length → ∀ p, ρ (j + a) ≠ some (i, p)) → upds v σ i = upds u σ i) ∧
        ∀ a o, l[a]? = some o → ∃ id p, ρ (j + a) = some (id, p) ∧ ((p = [] ∧ upds v σ id = backO ρ o) ∨
          ∃ c0 t0 c fz t y d, p ≠ [] ∧ σ id = some (.cell c0 false t0) ∧ o = some (.cell c fz t) ∧ upds v σ id = some (.cell c0 false y) ∧ codeAt c0 p = some d ∧ y.fits c0 = true ∧
            ∃ vs, V (j + a) vs ∧ RepC w S m2 (back ρ t) vs ∧ vs.length = d.size ∧ ∀ cs, RepC w S m2 t0 cs → RepC w S m2 y (splice cs (offK c0 p) vs) ∧ offK c0 p + d.size ≤ cs.length)
  | [], j, u, k, _, h => ⟨u, h, fun _ _ => rfl, fun a o q => by simp at q⟩
  | o :: l, j, u, k, hc, h => by
    have hc' : ∀ a c fz t, l[a]? = some (some (.cell c fz t)) → ∀ id p, ρ (j + 1 + a) = some (id, p) → p ≠ [] → ∃ vs, V (j + 1 + a) vs ∧ RepC w S m2 (back ρ t) vs ∧ ∀ c0 t0, σ id = some (.cell c0 false t0) → t0.fits c0 = true ∧ ∃ d, codeAt c0 p = some d :=
      fun a c fz t q id p hr hp => by
        have := hc (a + 1) c fz t (by simpa using q) id p (by rw [show j + (a + 1) = j + 1 + a by omega]; exact hr) hp
        rwa [show j + (a + 1) = j + 1 + a by omega] at this
    -- one object told, the others by the rest
    have one : ∀ {id : Nat} {p : List Step} {o' : Option Obj}, ρ j = some (id, p) → settle σ ρ (j + 1) l (u ++ [(id, o')]) k = some r →
        (∀ v : Ups, upds v σ id = o' → ((p = [] ∧ upds v σ id = backO ρ o) ∨
          ∃ c0 t0 c fz t y d, p ≠ [] ∧ σ id = some (.cell c0 false t0) ∧ o = some (.cell c fz t) ∧ upds v σ id = some (.cell c0 false y) ∧ codeAt c0 p = some d ∧ y.fits c0 = true ∧
            ∃ vs, V j vs ∧ RepC w S m2 (back ρ t) vs ∧ vs.length = d.size ∧ ∀ cs, RepC w S m2 t0 cs → RepC w S m2 y (splice cs (offK c0 p) vs) ∧ offK c0 p + d.size ≤ cs.length)) →
        ∃ v, k v = some r ∧ (∀ i, (∀ a, a < (o :: l).length → ∀ p, ρ (j + a) ≠ some (i, p)) → upds v σ i = upds u σ i) ∧
          ∀ a o1, (o :: l)[a]? = some o1 → ∃ id p, ρ (j + a) = some (id, p) ∧ ((p = [] ∧ upds v σ id = backO ρ o1) ∨
            ∃ c0 t0 c fz t y d, p ≠ [] ∧ σ id = some (.cell c0 false t0) ∧ o1 = some (.cell c fz t) ∧ upds v σ id = some (.cell c0 false y) ∧ codeAt c0 p = some d ∧ y.fits c0 = true ∧
              ∃ vs, V (j + a) vs ∧ RepC w S m2 (back ρ t) vs ∧ vs.length = d.size ∧ ∀ cs, RepC w S m2 t0 cs → RepC w S m2 y (splice cs (offK c0 p) vs) ∧ offK c0 p + d.size ≤ cs.length) := by
      intro id p o' hj hs ho
      obtain ⟨v, h1, h2, h3⟩ := settle_ok hinj hc' hs
      have hid : upds v σ id = o' := by
        rw [h2 id (fun a _ q e => by have := hinj _ _ _ _ _ hj e; omega), upds_snoc]; simp
      refine ⟨v, h1, fun i hi => ?_, fun a o1 q => ?_⟩
      · rw [h2 i (fun a ha q e => hi (a + 1) (by simpa using ha) q (by rw [show j + (a + 1) = j + 1 + a by omega]; exact e)), upds_snoc]
        have hne : ¬ i = id := fun e => by subst e; exact hi 0 (by simp) p hj
        exact upd_ne hne
      · cases a with
        | zero => simp at q; subst q; exact ⟨id, p, hj, ho v hid⟩
        | succ a =>
          obtain ⟨id', p', q1, q2⟩ := h3 a o1 (by simpa using q)
          rw [show j + (a + 1) = j + 1 + a by omega]; exact ⟨id', p', q1, q2⟩
    simp only [settle] at h
    split at h
    · cases h
    · rename_i id hj
      split at h
      · exact one hj h fun v hv => .inl ⟨rfl, hv⟩
      · exact one hj h fun v hv => .inl ⟨rfl, hv⟩
      · exact one hj h fun v hv => .inl ⟨rfl, hv⟩
      · exact one hj h fun v hv => .inl ⟨rfl, hv⟩
    · rename_i id p hp hj
      have hp' : p ≠ [] := fun e => hp (by rw [e])
      split at h
      case h_2 => cases h
      rename_i c0 t0 c fz t hs
      obtain ⟨vs, hv0, hv1, hv2⟩ := hc 0 c fz t rfl id p hj hp'
      obtain ⟨hf, d, hd⟩ := hv2 c0 t0 hs
      obtain ⟨y, hk, hl, hyf, hy⟩ := setT_ok hf hd hv1 h
      exact one hj hk fun v hv => .inr ⟨c0, t0, c, fz, t, y, d, hp', hs, rfl, hv, hd, hyf, vs, hv0, hv1, hl.1, hy⟩

/-- An update elsewhere is not seen here. -/
theorem upds_at : ∀ {u : Ups} {τ τ' : Sto} {i : Nat}, τ i = τ' i → upds u τ i = upds u τ' i
  | [], _, _, _, h => h
  | (k, o) :: r, τ, τ', i, h => by simp only [upds]; exact upds_at (by simp only [h])

theorem upds_none : ∀ {u : Ups} {τ : Sto} {i : Nat}, (∀ o, (i, o) ∉ u) → upds u τ i = τ i
  | [], _, _, _ => rfl
  | (k, o) :: r, τ, i, h => by
    simp only [upds]
    rw [upds_none fun o' q => h o' (List.mem_cons_of_mem _ q)]
    exact upd_ne fun e => by subst e; exact h o List.mem_cons_self

theorem news_spec {nb : Nat} (σ : Sto) : ∀ (u : Ups), (∀ i o, (i, o) ∈ u → (∃ p, σ i = some p ∧ ¬ (nb ≤ i ∧ i < nb + 500)) ∨ (σ i = none ∧ nb ≤ i ∧ i < nb + 500)) → ∀ (τ : Sto) (i : Nat), upds (news nb u) τ i = (match σ i with | none => upds u τ i | some _ => τ i)
  | [], _, τ, i => by cases h : σ i <;> rfl
  | (j, o) :: r, hu, τ, i => by
    have hu' := fun i o q => hu i o (List.mem_cons_of_mem _ q)
    simp only [news]
    rcases hu j o List.mem_cons_self with ⟨p, hj, hb⟩ | ⟨hj, hb⟩
    · have : (Nat.ble nb j && Nat.blt j (nb + 500)) = false := by
        rw [Bool.eq_false_iff]; intro q
        simp only [Bool.and_eq_true, Nat.blt_eq] at q
        exact hb ⟨Nat.le_of_ble_eq_true q.1, q.2⟩
      rw [this]
      simp only [cond_false]
      rw [news_spec σ r hu' τ i]
      cases hi : σ i with
      | none =>
        simp only [upds]
        have hne : i ≠ j := fun e => by subst e; rw [hj] at hi; cases hi
        exact upds_at (upd_ne hne).symm
      | some x => rfl
    · have : (Nat.ble nb j && Nat.blt j (nb + 500)) = true := by
        simp only [Bool.and_eq_true, Nat.blt_eq]; exact ⟨Nat.ble_eq_true_of_le hb.1, hb.2⟩
      rw [this]
      simp only [cond_true, upds]
      rw [news_spec σ r hu']
      cases hi : σ i with
      | none => rfl
      | some x => exact upd_ne fun e => by subst e; rw [hj] at hi; cases hi

/-- The nil rows alone. -/
theorem news_step {nb : Nat} {ρ : Binds} {ups : Ups} {S1 : Cells} {m1 : Nat → Option MB} (h0 : StoRel σ w S m) (hnb : ∀ k, k < 500 → m (nb + k) = none) (h : Later nb σ w S m (ρ, ups) S1 m1) :
    Step1 σ w S m (upds (news nb ups) σ) w S m1 ∧ ∀ i, upds (news nb ups) σ i = (match σ i with | none => upds ups σ i | some _ => σ i) := by
  have hsp := fun i => news_spec (nb := nb) σ ups (fun i o q => by
    rcases h.dom i o q with ⟨p, q1⟩ | ⟨k, q1, q2⟩
    · refine .inl ⟨p, q1, fun q2 => ?_⟩
      obtain ⟨v, q3, _⟩ := h0.sto i p q1
      have := hnb (i - nb) (by omega)
      rw [show nb + (i - nb) = i by omega, q3] at this; cases this
    · refine .inr ⟨?_, by omega⟩
      cases hq : σ i with
      | none => rfl
      | some p => obtain ⟨v, q3, _⟩ := h0.sto i p hq; rw [q2, hnb k q1] at q3; cases q3) σ i
  refine ⟨?_, hsp⟩
  obtain ⟨k1, k2, k3⟩ := h0.change (J := fun i => σ i = none) (F := fun _ _ => False) (σ' := upds (news nb ups) σ) (m' := m1) (S' := S)
    (fun i hi => by rw [hsp i]; cases hq : σ i with | none => exact absurd hq hi | some o => rfl) h.step.ext.maps (Touch.refl _ w) (fun _ _ q _ => q.elim) (fun _ _ q => q) (fun _ _ q => .inl q)
    (fun i o hi ho => by
      have hi : σ i = none := hi
      rw [hsp i, hi] at ho
      obtain ⟨e, sh, q1, q2⟩ := h.nils i o hi ho
      subst q1
      refine ⟨_, q2, ⟨none, 0, rfl, Nat.le_refl _, rfl, fun _ => rfl, (fun a q => by cases q), (fun i x hx => by simp at hx), ?_⟩, ?_⟩
      · rintro x ⟨n, cap', a', q, _⟩; cases q
      · rintro b x ⟨n, cap', a', q, _⟩; cases q)
    (fun i j o p u v hi hj hij ho hp hu hv b x hx _ => by
      have hi : σ i = none := hi
      rw [hsp i, hi] at ho
      obtain ⟨e, sh, q1, q2⟩ := h.nils i o hi ho
      rw [hu] at q2; cases q2; subst q1
      obtain ⟨n, cap', a', q, _⟩ := hx; cases q)
  exact ⟨k1, k2, k3⟩
end
end Go.Proofs.D
