/- Calls. -/
import Derived.Test.YtmmhjcimijfipaaGreatDUn
set_option linter.unusedVariables false
set_option linter.unusedSimpArgs false
namespace Go.Proofs.D
open Go.RowKit

section
variable {w w' : World} {S S' : Cells} {m m' m2 : Nat → Option MB} {σ σ0 : Nat → Option Obj}

/-- No data that hang on memory. -/
def T.flatT : T → Bool
  | .val c _ => c.flat | .nils _ => false | .rptr _ _ => false | .clo _ s => s.flatT | .pair a b => a.flatT && b.flatT | .tc a b => a.flatT && b.flatT | .tup l => l.flatT | _ => true

theorem flatT_fill : ∀ (s : Sk) (x : SkEl s), s.flat = true → (fill s x).flatT = true
  | .val c, x, h => h | .nils e, x, h => by cases h | .nilr r, x, h => rfl | .row k, x, h => rfl | .ptr k, x, h => rfl | .mapr k, x, h => rfl
  | .clo f s, x, h => flatT_fill s x h | .unit, x, h => rfl
  | .pair a b, x, h => by
    simp only [Sk.flat, Bool.and_eq_true] at h
    simp [fill, T.flatT, flatT_fill a x.1 h.1, flatT_fill b x.2 h.2]
  | .tn, x, h => rfl
  | .tc a b, x, h => by
    simp only [Sk.flat, Bool.and_eq_true] at h
    simp [fill, T.flatT, flatT_fill a x.1 h.1, flatT_fill b x.2 h.2]
  | .tup l, x, h => flatT_fill l x h

theorem RepC.flatT : ∀ {t : T} {cs : List Value}, t.flatT = true → RepC w S m t cs → RepC w S' m t cs
  | .any _, _, _, h => h
  | .und, _, _, h => h
  | .val _ _, _, hf, h => Rep.flat hf h
  | .nils _, _, hf, _ => by cases hf
  | .nilr _, _, _, h => h
  | .ptr _ _, _, _, h => h
  | .row _, _, _, h => h
  | .rptr _ _, _, hf, _ => by cases hf
  | .mapr _, _, _, h => h
  | .clo _ _, _, hf, ⟨vs, h, e⟩ => ⟨vs, RepC.flatT hf h, e⟩
  | .unit, _, _, h => h
  | .pair _ _, _, hf, ⟨c1, c2, e, h1, h2⟩ => by
    simp only [T.flatT, Bool.and_eq_true] at hf
    exact ⟨c1, c2, e, RepC.flatT hf.1 h1, RepC.flatT hf.2 h2⟩
  | .tn, _, _, h => h
  | .tc _ _, _, hf, ⟨v, r, e, h1, h2⟩ => by
    simp only [T.flatT, Bool.and_eq_true] at hf
    exact ⟨v, r, e, h1.imp id fun ⟨cs, h, hs⟩ => ⟨cs, RepC.flatT hf.1 h, hs⟩, RepC.flatT hf.2 h2⟩
  | .tup _, _, hf, ⟨vs, h, e⟩ => ⟨vs, RepC.flatT hf h, e⟩

/-- A numbering goes into another. -/
def Into (ρ : Nat → Option (Nat × List Step)) (m m2 : Nat → Option MB) : Prop :=
  ∀ k id p u, ρ k = some (id, p) → m k = some u → ∃ v, m2 id = some v ∧ u = subM v p ∧ ∃ d, codeAt v.code p = some d

theorem subM_code {v : MB} {p : List Step} {d : K} (h : codeAt v.code p = some d) : (subM v p).code = d := by
  cases p with
  | nil => simp only [codeAt, Option.some.injEq] at h; exact h
  | cons q r => show (codeAt v.code (q :: r)).getD v.code = d; rw [h]; rfl

theorem back_agg (ρ : Nat → Option (Nat × List Step)) : ∀ t : T, (back ρ t).isAgg = t.isAgg
  | .ptr k q => by simp only [back]; cases ρ k with
    | none => rfl
    | some b => rfl
  | .row k => by simp only [back]; cases ρ k with
    | none => rfl
    | some b => obtain ⟨i, p⟩ := b; cases p <;> rfl
  | .mapr k => by simp only [back]; cases ρ k with
    | none => rfl
    | some b => obtain ⟨i, p⟩ := b; cases p <;> rfl
  | .any _ => rfl | .und => rfl | .val _ _ => rfl | .nils _ => rfl | .nilr _ => rfl | .rptr _ _ => rfl | .clo _ _ => rfl | .unit => rfl | .pair _ _ => rfl
  | .tn => rfl | .tc _ _ => rfl | .tup _ => rfl

theorem back_any (ρ : Nat → Option (Nat × List Step)) : ∀ {t : T}, t.isAny = true → (back ρ t).isAny = true
  | .any _, _ => rfl

theorem back_ok {ρ : Nat → Option (Nat × List Step)} (hi : Into ρ m m2) : ∀ {t : T} {cs : List Value}, RepC w S m t cs → RepC w S m2 (back ρ t) cs
  | .any _, _, h => h
  | .und, _, h => h
  | .val _ _, _, h => h
  | .nils _, _, h => h
  | .nilr _, _, h => h
  | .ptr k q, cs, ⟨u, hu, e⟩ => by
    simp only [back]
    cases hk : ρ k with
    | none => subst e; exact ⟨rfl, by simp [Value.oneCell']⟩
    | some b =>
      obtain ⟨id, p⟩ := b
      obtain ⟨v, h1, h2, d, h3⟩ := hi k id p u hk hu
      refine ⟨v, h1, ?_⟩
      rw [e, h2, subM_b, subM_o, subM_code h3, offK_append h3, Nat.add_assoc]
  | .row k, cs, ⟨u, hu, e, A, n, cap, h4⟩ => by
    have anyC : RepC w S m2 (.any 1) cs := by subst e; exact ⟨rfl, by simp [h4, Value.oneCell']⟩
    simp only [back]
    cases hk : ρ k with
    | none => exact anyC
    | some b =>
      obtain ⟨id, p⟩ := b
      cases p with
      | nil =>
        obtain ⟨v, h1, h2, _⟩ := hi k id [] u hk hu
        have h2 : u = v := h2
        subst h2
        exact ⟨u, h1, e, A, n, cap, h4⟩
      | cons q r => exact anyC
  | .rptr _ _, _, h => h
  | .mapr k, cs, ⟨u, hu, e, r0, h4⟩ => by
    have anyC : RepC w S m2 (.any 1) cs := by subst e; exact ⟨rfl, by simp [h4, Value.oneCell']⟩
    simp only [back]
    cases hk : ρ k with
    | none => exact anyC
    | some b =>
      obtain ⟨id, p⟩ := b
      cases p with
      | nil =>
        obtain ⟨v, h1, h2, _⟩ := hi k id [] u hk hu
        have h2 : u = v := h2
        subst h2
        exact ⟨u, h1, e, r0, h4⟩
      | cons q r => exact anyC
  | .clo _ _, _, ⟨vs, h, e⟩ => ⟨vs, back_ok hi h, e⟩
  | .unit, _, h => h
  | .pair _ _, _, ⟨c1, c2, e, h1, h2⟩ => ⟨c1, c2, e, back_ok hi h1, back_ok hi h2⟩
  | .tn, _, h => h
  | .tc a b, _, ⟨v, r, e, h1, h2⟩ => ⟨v, r, e, h1.imp (back_any ρ) fun ⟨cs, h, hs⟩ => ⟨cs, back_ok hi h, by rw [back_agg]; exact hs⟩, back_ok hi h2⟩
  | .tup _, _, ⟨vs, h, e⟩ => ⟨vs, back_ok hi h, e⟩

theorem backV_ok {ρ : Nat → Option (Nat × List Step)} (hi : Into ρ m m2) {t : T} {v : Value} (h : RepV w S m t v) : RepV w S m2 (back ρ t) v :=
  h.imp (back_any ρ) fun ⟨cs, h, hs⟩ => ⟨cs, back_ok hi h, by rw [back_agg]; exact hs⟩

def backO (ρ : Nat → Option (Nat × List Step)) : Option Obj → Option Obj
  | some (.cell c fz t) => some (.cell c fz (back ρ t)) | x => x

theorem upds_snoc (u : Ups) (i : Nat) (o : Option Obj) (σ : Sto) (x : Nat) : upds (u ++ [(i, o)]) σ x = (bif Nat.beq x i then o else upds u σ x) := by
  rw [upds_append]; rfl

/-- What became of the objects. -/
theorem settle_ok {V : Nat → List Value → Prop} {R : Type} {r : R} {ρ : Nat → Option (Nat × List Step)} (hinj : ∀ a b id p q, ρ a = some (id, p) → ρ b = some (id, q) → a = b) :
    ∀ {l : List (Option Obj)} {j : Nat} {u : Ups} {k : Ups → Option R},
      (∀ a c fz t, l[a]? = some (some (.cell c fz t)) → ∀ id p, ρ (j + a) = some (id, p) → p ≠ [] → ∃ vs, V (j + a) vs ∧ RepC w S m2 (back ρ t) vs ∧ ∀ c0 t0, σ id = some (.cell c0 false t0) → t0.fits c0 = true ∧ ∃ d, codeAt c0 p = some d) →
      settle σ ρ j l u k = some r → ∃ v, k v = some r ∧ (∀ i, (∀ a, a < l.length → ∀ p, ρ (j + a) ≠ some (i, p)) → upds v σ i = upds u σ i) ∧
        ∀ a o, l[a]? = some o → ∃ id p, ρ (j + a) = some (id, p) ∧ ((p = [] ∧ upds v σ id = backO ρ o) ∨
          ∃ c0 t0 c fz t y d, p ≠ [] ∧ σ id = some (.cell c0 false t0) ∧ o = some (.cell c fz t) ∧ upds v σ id = some (.cell c0 false y) ∧ codeAt c0 p = some d ∧ y.fits c0 = true ∧
            ∃ vs, V (j + a) vs ∧ RepC w S m2 (back ρ t) vs ∧ vs.length = d.size ∧ ∀ cs, RepC w S m2 t0 cs → RepC w S m2 y (splice cs (offK c0 p) vs) ∧ offK c0 p + d.size ≤ cs.length)
  | [], j, u, k, _, h => ⟨u, h, fun _ _ => rfl, fun a o q => by simp at q⟩
  | o :: l, j, u, k, hc, h => by
    have hc' : ∀ a c fz t, l[a]? = some (some (.cell c fz t)) → ∀ id p, ρ (j + 1 + a) = some (id, p) → p ≠ [] → ∃ vs, V (j + 1 + a) vs ∧ RepC w S m2 (back ρ t) vs ∧ ∀ c0 t0, σ id = some (.cell c0 false t0) → t0.fits c0 = true ∧ ∃ d, codeAt c0 p = some d :=
      fun a c fz t q id p hr hp => by
        have := hc (a + 1) c fz t (by simpa using q) id p (by rw [show j + (a + 1) = j + 1 + a by omega]; exact hr) hp
        rwa [show j + (a + 1) = j + 1 + a by omega] at this
    -- one object told, the others by the rest
    have one : ∀ {id : Nat} {p : List Step} {o' : Option Obj}, ρ j = some (id, p) → settle σ ρ (j + 1) l (u ++ [(id, o')]) k = some r →
        (∀ v : Ups, upds v σ id = o' → ((p = [] ∧ upds v σ id = backO ρ o) ∨
          ∃ c0 t0 c fz t y d, p ≠ [] ∧ σ id = some (.cell c0 false t0) ∧ o = some (.cell c fz t) ∧ upds v σ id = some (.cell c0 false y) ∧ codeAt c0 p = some d ∧ y.fits c0 = true ∧
            ∃ vs, V j vs ∧ RepC w S m2 (back ρ t) vs ∧ vs.length = d.size ∧ ∀ cs, RepC w S m2 t0 cs → RepC w S m2 y (splice cs (offK c0 p) vs) ∧ offK c0 p + d.size ≤ cs.length)) →
        ∃ v, k v = some r ∧ (∀ i, (∀ a, a < (o :: l).length → ∀ p, ρ (j + a) ≠ some (i, p)) → upds v σ i = upds u σ i) ∧
          ∀ a o1, (o :: l)[a]? = some o1 → ∃ id p, ρ (j + a) = some (id, p) ∧ ((p = [] ∧ upds v σ id = backO ρ o1) ∨
            ∃ c0 t0 c fz t y d, p ≠ [] ∧ σ id = some (.cell c0 false t0) ∧ o1 = some (.cell c fz t) ∧ upds v σ id = some (.cell c0 false y) ∧ codeAt c0 p = some d ∧ y.fits c0 = true ∧
              ∃ vs, V (j + a) vs ∧ RepC w S m2 (back ρ t) vs ∧ vs.length = d.size ∧ ∀ cs, RepC w S m2 t0 cs → RepC w S m2 y (splice cs (offK c0 p) vs) ∧ offK c0 p + d.size ≤ cs.length) := by
      intro id p o' hj hs ho
      obtain ⟨v, h1, h2, h3⟩ := settle_ok hinj hc' hs
      have hid : upds v σ id = o' := by
        rw [h2 id (fun a _ q e => by have := hinj _ _ _ _ _ hj e; omega), upds_snoc]; simp
      refine ⟨v, h1, fun i hi => ?_, fun a o1 q => ?_⟩
      · rw [h2 i (fun a ha q e => hi (a + 1) (by simpa using ha) q (by rw [show j + (a + 1) = j + 1 + a by omega]; exact e)), upds_snoc]
        have hne : ¬ i = id := fun e => by subst e; exact hi 0 (by simp) p hj
        exact upd_ne hne
      · cases a with
        | zero => simp at q; subst q; exact ⟨id, p, hj, ho v hid⟩
        | succ a =>
          obtain ⟨id', p', q1, q2⟩ := h3 a o1 (by simpa using q)
          rw [show j + (a + 1) = j + 1 + a by omega]; exact ⟨id', p', q1, q2⟩
    simp only [settle] at h
    split at h
    · cases h
    · rename_i id hj
      split at h
      · exact one hj h fun v hv => .inl ⟨rfl, hv⟩
      · exact one hj h fun v hv => .inl ⟨rfl, hv⟩
      · exact one hj h fun v hv => .inl ⟨rfl, hv⟩
      · exact one hj h fun v hv => .inl ⟨rfl, hv⟩
    · rename_i id p hp hj
      have hp' : p ≠ [] := fun e => hp (by rw [e])
      split at h
      case h_2 => cases h
      rename_i c0 t0 c fz t hs
      obtain ⟨vs, hv0, hv1, hv2⟩ := hc 0 c fz t rfl id p hj hp'
      obtain ⟨hf, d, hd⟩ := hv2 c0 t0 hs
      obtain ⟨y, hk, hl, hyf, hy⟩ := setT_ok hf hd hv1 h
      exact one hj hk fun v hv => .inr ⟨c0, t0, c, fz, t, y, d, hp', hs, rfl, hv, hd, hyf, vs, hv0, hv1, hl.1, hy⟩

/-- An update elsewhere is not seen here. -/
theorem upds_at : ∀ {u : Ups} {τ τ' : Sto} {i : Nat}, τ i = τ' i → upds u τ i = upds u τ' i
  | [], _, _, _, h => h
  | (k, o) :: r, τ, τ', i, h => by simp only [upds]; exact upds_at (by simp only [h])

theorem upds_none : ∀ {u : Ups} {τ : Sto} {i : Nat}, (∀ o, (i, o) ∉ u) → upds u τ i = τ i
  | [], _, _, _ => rfl
  | (k, o) :: r, τ, i, h => by
    simp only [upds]
    rw [upds_none fun o' q => h o' (List.mem_cons_of_mem _ q)]
    exact upd_ne fun e => by subst e; exact h o List.mem_cons_self

theorem news_spec {nb : Nat} (σ : Sto) : ∀ (u : Ups), (∀ i o, (i, o) ∈ u → (∃ p, σ i = some p ∧ ¬ (nb ≤ i ∧ i < nb + 500)) ∨ (σ i = none ∧ nb ≤ i ∧ i < nb + 500)) → ∀ (τ : Sto) (i : Nat), upds (news nb u) τ i = (match σ i with | none => upds u τ i | some _ => τ i)
  | [], _, τ, i => by cases h : σ i <;> rfl
  | (j, o) :: r, hu, τ, i => by
    have hu' := fun i o q => hu i o (List.mem_cons_of_mem _ q)
    simp only [news]
    rcases hu j o List.mem_cons_self with ⟨p, hj, hb⟩ | ⟨hj, hb⟩
    · have : (Nat.ble nb j && Nat.blt j (nb + 500)) = false := by
        rw [Bool.eq_false_iff]; intro q
        simp only [Bool.and_eq_true, Nat.blt_eq] at q
        exact hb ⟨Nat.le_of_ble_eq_true q.1, q.2⟩
      rw [this]
      simp only [cond_false]
      rw [news_spec σ r hu' τ i]
      cases hi : σ i with
      | none =>
        simp only [upds]
        have hne : i ≠ j := fun e => by subst e; rw [hj] at hi; cases hi
        exact upds_at (upd_ne hne).symm
      | some x => rfl
    · have : (Nat.ble nb j && Nat.blt j (nb + 500)) = true := by
        simp only [Bool.and_eq_true, Nat.blt_eq]; exact ⟨Nat.ble_eq_true_of_le hb.1, hb.2⟩
      rw [this]
      simp only [cond_true, upds]
      rw [news_spec σ r hu']
      cases hi : σ i with
      | none => rfl
      | some x => exact upd_ne fun e => by subst e; rw [hj] at hi; cases hi

/-- The nil rows alone. -/
theorem news_step {nb : Nat} {ρ : Binds} {ups : Ups} {S1 : Cells} {m1 : Nat → Option MB} (h0 : StoRel σ w S m) (hnb : ∀ k, k < 500 → m (nb + k) = none) (h : Later nb σ w S m (ρ, ups) S1 m1) :
    Step1 σ w S m (upds (news nb ups) σ) w S m1 ∧ ∀ i, upds (news nb ups) σ i = (match σ i with | none => upds ups σ i | some _ => σ i) := by
  have hsp := fun i => news_spec (nb := nb) σ ups (fun i o q => by
    rcases h.dom i o q with ⟨p, q1⟩ | ⟨k, q1, q2⟩
    · refine .inl ⟨p, q1, fun q2 => ?_⟩
      obtain ⟨v, q3, _⟩ := h0.sto i p q1
      have := hnb (i - nb) (by omega)
      rw [show nb + (i - nb) = i by omega, q3] at this; cases this
    · refine .inr ⟨?_, by omega⟩
      cases hq : σ i with
      | none => rfl
      | some p => obtain ⟨v, q3, _⟩ := h0.sto i p hq; rw [q2, hnb k q1] at q3; cases q3) σ i
  refine ⟨?_, hsp⟩
  obtain ⟨k1, k2, k3⟩ := h0.change (J := fun i => σ i = none) (F := fun _ _ => False) (σ' := upds (news nb ups) σ) (m' := m1) (S' := S)
    (fun i hi => by rw [hsp i]; cases hq : σ i with | none => exact absurd hq hi | some o => rfl) h.step.ext.maps (Touch.refl _ w) (fun _ _ q _ => q.elim) (fun _ _ q => q) (fun _ _ q => .inl q)
    (fun i o hi ho => by
      have hi : σ i = none := hi
      rw [hsp i, hi] at ho
      obtain ⟨e, sh, q1, q2⟩ := h.nils i o hi ho
      subst q1
      refine ⟨_, q2, ⟨none, 0, rfl, Nat.le_refl _, rfl, fun _ => rfl, (fun a q => by cases q), (fun i x hx => by simp at hx), ?_⟩, ?_⟩
      · rintro x ⟨n, cap', a', q, _⟩; cases q
      · rintro b x ⟨n, cap', a', q, _⟩; cases q)
    (fun i j o p u v hi hj hij ho hp hu hv b x hx _ => by
      have hi : σ i = none := hi
      rw [hsp i, hi] at ho
      obtain ⟨e, sh, q1, q2⟩ := h.nils i o hi ho
      rw [hu] at q2; cases q2; subst q1
      obtain ⟨n, cap', a', q, _⟩ := hx; cases q)
  exact ⟨k1, k2, k3⟩
end
end Go.Proofs.D

/- Calls: what a callee did, told of the caller's objects. -/
namespace Go.Proofs.D
open Go.RowKit

section
variable {w w' : World} {S S' S2 : Cells} {m m' m2 : Nat → Option MB} {σ : Nat → Option Obj}

def flatObj : Obj → Bool
  | .cell _ fz t => t.flatT && !fz | .row e sh _ => e.flat && !sh | .map k v _ => k.flat && v.flat

theorem flatObj_fill : ∀ {o : ObSk} {x : ObEl o} {p : Obj}, o.flat = true → fillO o x = some p → flatObj p = true
  | .cell c s, x, p, h, e => by
    simp only [fillO, Option.some.injEq] at e; subst e
    simp [flatObj, flatT_fill s x h]
  | .row c sh, x, p, h, e => by simp only [fillO, Option.some.injEq] at e; subst e; exact h
  | .map k v, x, p, h, e => by simp only [fillO, Option.some.injEq] at e; subst e; exact h
  | .gone, x, p, h, e => by cases e

theorem flatL_get : ∀ {l : List ObSk} {j : Nat} {o : ObSk}, flatL l = true → l[j]? = some o → o.flat = true
  | [], j, o, _, h => by simp at h
  | a :: l, 0, o, hf, h => by
    simp only [flatL, Bool.and_eq_true] at hf
    simp at h; subst h; exact hf.1
  | a :: l, j + 1, o, hf, h => by
    simp only [flatL, Bool.and_eq_true] at hf
    exact flatL_get hf.2 (by simpa using h)

theorem back_fits (ρ : Nat → Option (Nat × List Step)) : ∀ (t : T) (c : K), t.fits c = true → (back ρ t).fits c = true := by
  intro t
  induction t with
  | ptr k q =>
    intro c h
    cases c <;> first | (simp [T.fits] at h; done) | skip
    · rename_i r
      cases r with
      | zero => cases hk : ρ k <;> simp [back, hk, T.fits, K.size]
      | succ r => simp [T.fits] at h
  | row k =>
    intro c h
    cases c <;> first | (simp [T.fits] at h; done) | skip
    · simp only [back]; split <;> simp [T.fits, K.size]
  | mapr k =>
    intro c h
    cases c <;> first | (simp [T.fits] at h; done) | skip
    · rename_i r
      match r, h with
      | 1, _ => simp only [back]; split <;> simp [T.fits, K.size]
      | 0, h => simp [T.fits] at h
      | r + 2, h => simp [T.fits] at h
  | clo f c' ih =>
    intro c h
    cases c <;> first | (simp [T.fits] at h; done) | skip
    · rename_i r
      match r, h with
      | 2, _ => rfl
      | 0, h => simp [T.fits] at h
      | 1, h => simp [T.fits] at h
      | r + 3, h => simp [T.fits] at h
  | pair a b iha ihb =>
    intro c h
    cases c <;> first | (simp [T.fits] at h; done) | skip
    · rename_i ca cb
      simp only [T.fits, Bool.and_eq_true] at h
      simp only [back, T.fits, Bool.and_eq_true]
      exact ⟨iha _ h.1, ihb _ h.2⟩
    · rename_i n e
      cases n with
      | zero => simp [T.fits] at h
      | succ n =>
        simp only [T.fits, Bool.and_eq_true] at h
        simp only [back, T.fits, Bool.and_eq_true]
        exact ⟨iha _ h.1, ihb _ h.2⟩
  | tc a b iha ihb =>
    intro c h
    cases c <;> simp [T.fits] at h
  | tup l ih =>
    intro c h
    cases c <;> simp [T.fits] at h
  | _ => intro c h; exact h

theorem MapL.flat {kc vc : K} (h1 : kc.flat = true) (h2 : vc.flat = true) : ∀ {es : List (El kc × El vc)} {fs : List MapEntry}, MapL w S kc vc es fs → MapL w S' kc vc es fs
  | [], [], h => h
  | [], _ :: _, h => h
  | _ :: _, [], h => h
  | e :: r, f :: q, ⟨⟨c1, g1, g2⟩, ⟨c2, g3, g4⟩, g5⟩ => ⟨⟨c1, Rep.flat h1 g1, g2⟩, ⟨c2, Rep.flat h2 g3, g4⟩, MapL.flat h1 h2 g5⟩

theorem MapP.flat {kc vc : K} (h1 : kc.flat = true) (h2 : vc.flat = true) {es : List (El kc × El vc)} {fs : List MapEntry} (h : MapP w S kc vc es fs) : MapP w S' kc vc es fs :=
  let ⟨a, es', b, c⟩ := h
  ⟨a, es', b, c.flat h1 h2⟩

/-- A callee's object, as the caller's. -/
theorem ObjOk.to {ρ : Nat → Option (Nat × List Step)} {u : MB} {o0 o : Obj} (h : ObjOk w' S' m' u o0) (hi : Into ρ m' m2) (hk : (∀ b x, S' b x → S2 b x) ∨ flatObj o0 = true) (he : backO ρ (some o0) = some o) :
    ObjOk w' S2 m2 u o ∧ ∀ b x, Own u o b x ↔ Own u o0 b x := by
  cases o0 with
  | cell c fz t =>
    simp only [backO, Option.some.injEq] at he; subst he
    obtain ⟨g0, g1, g2, cs, g3, g4, g5, g6⟩ := h
    refine ⟨⟨g0, g1, back_fits ρ t c g2, cs, g3, ?_, g5, fun hz j hj => ?_⟩, fun _ _ => Iff.rfl⟩
    · rcases hk with hk | hk
      · exact back_ok hi (g4.keep ⟨hk, fun _ _ _ _ h => h⟩ (fun _ _ q => q))
      · simp only [flatObj, Bool.and_eq_true] at hk
        exact back_ok hi (RepC.flatT hk.1 g4)
    · rcases hk with hk | hk
      · exact hk _ _ (g6 hz j hj)
      · simp [flatObj, hz] at hk
  | row e sh l =>
    simp only [backO, Option.some.injEq] at he; subst he
    obtain ⟨A, cap, g0, g1, g2, g3, g4, g5, g6⟩ := h
    refine ⟨⟨A, cap, g0, g1, g2, g3, g4, fun i x hx => ?_, g6⟩, fun _ _ => Iff.rfl⟩
    obtain ⟨cs, k1, k2, k3, k4⟩ := g5 i x hx
    rcases hk with hk | hk
    · exact ⟨cs, k1, k2, k3.keep ⟨hk, fun _ _ _ _ h => h⟩, fun hz j hj => hk _ _ (k4 hz j hj)⟩
    · simp only [flatObj, Bool.and_eq_true, Bool.not_eq_true'] at hk
      exact ⟨cs, k1, k2, Rep.flat hk.1 k3, fun hz => by rw [hk.2] at hz; cases hz⟩
  | map kc vc es =>
    simp only [backO, Option.some.injEq] at he; subst he
    obtain ⟨g0, g1, fs, clock, g2, g3, gB⟩ := h
    refine ⟨⟨g0, g1, fs, clock, g2, ?_, gB⟩, fun _ _ => Iff.rfl⟩
    rcases hk with hk | hk
    · exact g3.keep ⟨hk, fun _ _ _ _ h => h⟩
    · simp only [flatObj, Bool.and_eq_true] at hk
      exact g3.flat hk.1 hk.2

theorem objs0_of : ∀ {l : List (Option Obj)} {n : Nat} {o : Obj}, l[n]? = some (some o) → objs0 l n = some o
  | [], n, o, h => by simp at h
  | x :: l, 0, o, h => by simpa [objs0] using h
  | x :: l, n + 1, o, h => by
    have h' : l[n]? = some (some o) := by simpa using h
    exact objs0_of (l := l) (n := n) h'

/-- What is known where a call begins: σ1 with what was read frozen, σb what it is settled upon. -/
structure Called (n dn : Nat) (ρ : Binds) (ins : Nat → Option Obj) (σ1 σb : Nat → Option Obj) (w : World) (S1 Sb : Cells) (m1 : Nat → Option MB) : Prop where
  st1 : StoRel σ1 w S1 m1
  stb : StoRel σb w Sb m1
  sti : StoRel ins w S1 (bindM ρ m1)
  more : More σb σ1
  dom : ∀ i o, σ1 i = some o → ∃ o', σb i = some o'
  le : ∀ b x, Sb b x → S1 b x
  cells : ∀ b x, S1 b x → Sb b x ∨ OwnSt σb m1 b x
  keys : ∀ k id p, ρ.find k = some (id, p) → k < n
  path : ∀ k id p, ρ.find k = some (id, p) → p = [] ∨ ∃ c d, shapeO (σ1 id) = some c ∧ codeAt c p = some d
  bnd : ∀ k id p, ρ.find k = some (id, p) → ∃ v, m1 id = some v
  dist : ∀ i j id p q, ρ.find i = some (id, p) → ρ.find j = some (id, q) → i = j
  new : ∀ k, k < 500 → m1 (1000000 + 1000 * dn + k) = none
  place : ∀ i o u, ins i = some o → bindM ρ m1 i = some u → ∃ id p v o', ρ.find i = some (id, p) ∧ m1 id = some v ∧ σ1 id = some o' ∧ u = subM v p ∧ ∀ b y, Own u o b y → Own v o' b y

variable {n N dn : Nat} {ρ : Binds} {ins σ1 σb : Nat → Option Obj} {S1 Sb : Cells} {m1 : Nat → Option MB} {outs : List (Option Obj)}

theorem Called.own1 (h : Called n dn ρ ins σ1 σb w S1 Sb m1) {i : Nat} {o : Obj} {u : MB} (ho : σ1 i = some o) {b x : Nat} (hx : Own u o b x) : ∃ o', σb i = some o' ∧ Own u o' b x := by
  obtain ⟨o', ho'⟩ := h.dom i o ho
  refine ⟨o', ho', ?_⟩
  have hm := h.more i o' ho'
  cases o' with
  | cell c fz t => have hm : σ1 i = some (.cell c fz t) := hm; rw [ho] at hm; cases hm; exact hx
  | map kc vc es => have hm : σ1 i = some (.map kc vc es) := hm; rw [ho] at hm; cases hm; exact hx
  | row e sh l =>
    obtain ⟨sh', hm, hs⟩ := hm
    rw [ho] at hm; cases hm
    obtain ⟨n, cap, a, q1, q2, q3, q4, q5⟩ := hx
    exact ⟨n, cap, a, q1, q2, q3, q4, fun hz => q5 (hs hz)⟩

def boundJ (n N dn : Nat) (ρ : Binds) (i : Nat) : Prop := (∃ k p, ρ.find k = some (i, p)) ∨ ∃ k, n ≤ k ∧ k < N ∧ i = 1000000 + 1000 * dn + k

theorem Called.ownJ (h : Called n dn ρ ins σ1 σb w S1 Sb m1) {b x : Nat} (hx : OwnSt ins (bindM ρ m1) b x) : OwnJ (boundJ n N dn ρ) σb m1 b x := by
  obtain ⟨i, o, u, ho, hu, hx⟩ := hx
  obtain ⟨id, p, v, o', h1, h2, h3, h4, h5⟩ := h.place i o u ho hu
  obtain ⟨o2, h6, h7⟩ := h.own1 h3 (h5 b x hx)
  exact ⟨id, o2, v, .inl ⟨i, p, h1⟩, h6, h2, h7⟩

/-- Within a variable that a part of was handed on, only that part is the callee's. -/
theorem Called.part (h : Called n dn ρ ins σ1 σb w S1 Sb m1) {k id : Nat} {p : List Step} (hk : ρ.find k = some (id, p)) (hp : p ≠ []) {c0 d : K} {fz : Bool} {t0 : T} {v : MB} (hs : σ1 id = some (.cell c0 fz t0)) (hv : m1 id = some v)
    (hd : codeAt c0 p = some d) {b x : Nat} (ho : Own v (.cell c0 fz t0) b x) (hx : OwnSt ins (bindM ρ m1) b x) : b = v.b ∧ v.o + offK c0 p ≤ x ∧ x < v.o + offK c0 p + d.size := by
  obtain ⟨i, o, u, hi, hu, hx⟩ := hx
  obtain ⟨id', p', v', o', h1, h2, h3, h4, h5⟩ := h.place i o u hi hu
  have hid : id' = id := by
    by_cases e : id' = id
    · exact e
    · exact (h.st1.apart id' id o' _ v' v e h3 hs h2 hv b x (h5 b x hx) ho).elim
  subst hid
  have hik : i = k := h.dist _ _ _ _ _ h1 hk
  subst hik
  rw [hk] at h1; cases h1
  rw [hv] at h2; cases h2
  obtain ⟨u', g1, g2⟩ := h.sti.sto i o hi
  rw [hu] at g1; cases g1
  obtain ⟨v', g3, g4⟩ := h.st1.sto _ _ hs
  rw [hv] at g3; cases g3
  have hcode : v.code = c0 := g4.2.1
  have hcd : u.code = d := by rw [h4]; exact subM_code (by rw [hcode]; exact hd)
  cases o with
  | cell c fz' t =>
    have : u.code = c := g2.2.1
    rw [hcd] at this; subst this
    obtain ⟨-, q1, q2, q3⟩ := hx
    rw [h4, subM_b] at q1
    rw [h4, subM_o, hcode] at q2 q3
    exact ⟨q1, q2, q3⟩
  | row e sh l =>
    obtain ⟨A, cap, g5, _⟩ := g2
    cases p with
    | nil => exact absurd rfl hp
    | cons q r => rw [h4] at g5; cases g5
  | map kc vc es =>
    have g5 := g2.1
    cases p with
    | nil => exact absurd rfl hp
    | cons q r => rw [h4] at g5; cases g5

def callM (n N dn : Nat) (m1 m' : Nat → Option MB) (i : Nat) : Option MB :=
  match m1 i with
  | some u => some u
  | none => if 1000000 + 1000 * dn + n ≤ i ∧ i < 1000000 + 1000 * dn + N then m' (i - (1000000 + 1000 * dn)) else none

theorem callM_old {i : Nat} {u : MB} (h : m1 i = some u) : callM n N dn m1 m' i = some u := by simp [callM, h]
theorem callM_new {k : Nat} (h : m1 (1000000 + 1000 * dn + k) = none) (h1 : n ≤ k) (h2 : k < N) : callM n N dn m1 m' (1000000 + 1000 * dn + k) = m' k := by
  simp only [callM, h]
  rw [if_pos ⟨by omega, by omega⟩]; congr 1; omega
theorem callM_inv {i : Nat} {u : MB} (h : callM n N dn m1 m' i = some u) : m1 i = some u ∨ ∃ k, n ≤ k ∧ k < N ∧ i = 1000000 + 1000 * dn + k := by
  simp only [callM] at h
  split at h
  · rename_i u' hu; rw [hu]; exact .inl h
  · split at h
    · rename_i hc; exact .inr ⟨i - (1000000 + 1000 * dn), by omega, by omega, by omega⟩
    · cases h

theorem backM_some {k id : Nat} {p : List Step} (h : backM ρ n N dn k = some (id, p)) : (k < n ∧ ρ.find k = some (id, p)) ∨ (n ≤ k ∧ k < N ∧ id = 1000000 + 1000 * dn + k ∧ p = []) := by
  unfold backM at h
  cases h1 : Nat.blt k n with
  | true =>
    rw [h1] at h
    exact .inl ⟨by simpa [Nat.blt_eq] using h1, h⟩
  | false =>
    rw [h1] at h
    have h1' : ¬ k < n := by intro q; rw [← Nat.blt_eq] at q; rw [q] at h1; cases h1
    simp only [cond_false] at h
    obtain ⟨h2, h3⟩ := bif_some h
    cases h3
    exact .inr ⟨by omega, by simpa [Nat.blt_eq] using h2, rfl, rfl⟩

theorem codeAt_nil (c : K) : codeAt c [] = some c := by cases c <;> simp [codeAt]

theorem Called.into (h : Called n dn ρ ins σ1 σb w S1 Sb m1) (hN : N ≤ 500) (hpre : ∀ i u, i < n → bindM ρ m1 i = some u → m' i = some u) : Into (backM ρ n N dn) m' (callM n N dn m1 m') := by
  intro k id p u hb hu
  rcases backM_some hb with ⟨h1, h2⟩ | ⟨h1, h2, h3, h4⟩
  · obtain ⟨v, hv⟩ := h.bnd _ _ _ h2
    have h3 := hpre k (subM v p) h1 (by simp [bindM, h2, hv])
    rw [hu] at h3; cases h3
    refine ⟨v, callM_old hv, rfl, ?_⟩
    rcases h.path _ _ _ h2 with e | ⟨c, d, e1, e2⟩
    · subst e; exact ⟨_, codeAt_nil _⟩
    · refine ⟨d, ?_⟩
      cases ho : σ1 id with
      | none => rw [ho] at e1; cases e1
      | some o =>
        obtain ⟨v', g1, g2⟩ := h.st1.sto _ _ ho
        rw [hv] at g1; cases g1
        rw [ho] at e1
        cases o with
        | cell c' fz t => simp only [shapeO, Option.some.injEq] at e1; subst e1; rw [g2.2.1]; exact e2
        | row e sh l =>
          simp only [shapeO, Option.some.injEq] at e1; subst e1
          obtain ⟨A, cap, _, _, g3, _⟩ := g2
          rw [g3]; exact e2
        | map kc vc es => simp [shapeO] at e1
  · subst h3; subst h4
    exact ⟨u, by rw [callM_new (h.new k (by omega)) h1 h2, hu], rfl, _, codeAt_nil _⟩

theorem rangeAt_glue {w w' : World} {b o off : Nat} {cs vs : List Value} (h : w.rangeAt b o cs) (hv : w'.rangeAt b (o + off) vs) (hl : off + vs.length ≤ cs.length)
    (hc : ∀ j, j < cs.length → (j < off ∨ off + vs.length ≤ j) → w'.cell? ⟨b, o + j, none⟩ = w.cell? ⟨b, o + j, none⟩) : w'.rangeAt b o (splice cs off vs) := fun j v hj => by
  have hjl : j < cs.length := by
    have := (List.getElem?_eq_some_iff.1 hj).1
    rwa [splice_length hl] at this
  by_cases h1 : j < off
  · have e : (splice cs off vs)[j]? = cs[j]? := by
      rw [splice, List.getElem?_append_left (by simp; omega), List.getElem?_take]; simp [h1]
    rw [e] at hj
    rw [hc j hjl (.inl h1)]; exact h j v hj
  · by_cases h2 : j < off + vs.length
    · have e : (splice cs off vs)[j]? = vs[j - off]? := by
        rw [splice, List.getElem?_append_right (by simp; omega), List.length_take, show min off cs.length = off by omega, List.getElem?_append_left (by omega)]
      rw [e] at hj
      have := hv _ v hj
      rwa [show o + off + (j - off) = o + j by omega] at this
    · have e : (splice cs off vs)[j]? = cs[j]? := by
        rw [splice, List.getElem?_append_right (by simp; omega), List.length_take, show min off cs.length = off by omega, List.getElem?_append_right (by omega), List.getElem?_drop]
        congr 1; omega
      rw [e] at hj
      rw [hc j hjl (.inr (by omega))]; exact h j v hj

theorem Called.settle (h : Called n dn ρ ins σ1 σb w S1 Sb m1) {R : Type} {r : R} {κ : Ups → Option R} {u0 : Ups} (hN : N ≤ 500) (hn : n ≤ N) (hl : outs.length = N)
    (hfz : ∀ (a : Nat) (c : K) (fz : Bool) (t : T), outs[a]? = some (some (.cell c fz t)) → fz = false)
    (hσ : ∀ id c0 t0, σ id = some (.cell c0 false t0) → σ1 id = some (.cell c0 false t0) ∧ σb id = some (.cell c0 false t0))
    (hu : ∀ i, upds u0 σ i = σb i)
    (hkeep : (∀ b x, S1 b x → Sb b x) ∨ ∀ (a : Nat) (o : Obj), outs[a]? = some (some o) → flatObj o = true)
    (hS : StoRel (objs0 outs) w' S' m') (hpre : ∀ i u, i < n → bindM ρ m1 i = some u → m' i = some u)
    (hext : Ext (OwnSt ins (bindM ρ m1)) w S1 (fun _ => none) w' S' (fun _ => none) (OwnSt (objs0 outs) m'))
    (hs : settle σ (backM ρ n N dn) 0 outs u0 κ = some r) :
    ∃ v S2, κ v = some r ∧ Step1 σb w Sb m1 (upds v σ) w' S2 (callM n N dn m1 m') ∧ ((∀ b x, S1 b x → Sb b x) → ∀ b x, S' b x → S2 b x) := by
  classical
  have hinto := h.into hN hpre
  have hB : ∀ a b id p q, backM ρ n N dn a = some (id, p) → backM ρ n N dn b = some (id, q) → a = b := by
    intro a b id p q ha hb
    rcases backM_some ha with ⟨a1, a2⟩ | ⟨a1, a2, a3, a4⟩ <;> rcases backM_some hb with ⟨b1, b2⟩ | ⟨b1, b2, b3, b4⟩
    · exact h.dist _ _ _ _ _ a2 b2
    · obtain ⟨v, hv⟩ := h.bnd _ _ _ a2
      rw [b3, h.new b (by omega)] at hv; cases hv
    · obtain ⟨v, hv⟩ := h.bnd _ _ _ b2
      rw [a3, h.new a (by omega)] at hv; cases hv
    · omega
  let S2 : Cells := fun b x => Sb b x ∨ (S' b x ∧ ¬ OwnJ (fun i => ¬ boundJ n N dn ρ i) σb m1 b x)
  have hJJ : ∀ b x, OwnJ (boundJ n N dn ρ) σb m1 b x → ¬ OwnJ (fun i => ¬ boundJ n N dn ρ i) σb m1 b x := by
    rintro b x ⟨i, o, u, a1, a2, a3, a4⟩ ⟨j, p, v, b1, b2, b3, b4⟩
    exact h.stb.apart i j o p u v (fun e => b1 (e ▸ a1)) a2 b2 a3 b3 b x a4 b4
  have hnew : ∀ b x, w.heap.size ≤ b → ¬ OwnSt σb m1 b x := fun b x hb hx => by have := h.stb.own_lt hx; omega
  have hSS : (∀ b x, S1 b x → Sb b x) → ∀ b x, S' b x → S2 b x := by
    intro hk b x hx
    rcases hext.less b x hx with h1 | h1 | h1
    · exact .inl (hk b x h1)
    · exact .inr ⟨hx, hJJ b x (h.ownJ h1)⟩
    · exact .inr ⟨hx, fun q => hnew b x h1 q.st⟩
  have hkeep' : ∀ {a : Nat} {o : Obj}, outs[a]? = some (some o) → (∀ b x, S' b x → S2 b x) ∨ flatObj o = true := fun ha => hkeep.imp hSS fun q => q _ _ ha
  have hT : Touch (OwnSt ins (bindM ρ m1)) w w' := ⟨hext.os, hext.tape, hext.output, hext.size, hext.cell, hext.block⟩
  have hkb : Keeps w Sb w' S2 := hT.keeps (fun b x q1 q2 => h.stb.notS q1 (h.ownJ (N := N) q2).st) fun b x q => .inl q
  -- the settled objects
  let V : Nat → List Value → Prop := fun a vs => ∃ c t u', outs[a]? = some (some (.cell c false t)) ∧ m' a = some u' ∧ u'.code = c ∧ w'.rangeAt u'.b u'.o vs ∧ ∀ j, j < c.size → w'.frozen? ⟨u'.b, u'.o + j, none⟩ = false
  obtain ⟨v, hv1, hv2, hv3⟩ := settle_ok (w := w') (S := S2) (m2 := callM n N dn m1 m') (V := V) hB (j := 0) (fun a c fz t ha id p hr hp => by
    have hz := hfz _ _ _ _ ha
    subst hz
    obtain ⟨u', g1, g2⟩ := hS.sto a _ (objs0_of ha)
    have g3 := (g2.to (ρ := backM ρ n N dn) hinto (hkeep' ha) rfl).1
    obtain ⟨-, k1, -, cs, k2, k3, k4, -⟩ := g3
    rw [Nat.zero_add] at hr ⊢
    refine ⟨cs, ⟨c, t, u', ha, g1, k1, k2, k4 rfl⟩, k3, fun c0 t0 hs0 => ?_⟩
    obtain ⟨s1, s2⟩ := hσ _ _ _ hs0
    obtain ⟨v0, q1, q2⟩ := h.st1.sto _ _ s1
    refine ⟨q2.2.2.1, ?_⟩
    rcases backM_some hr with ⟨a1, a2⟩ | ⟨_, _, _, a4⟩
    · rcases h.path _ _ _ a2 with e | ⟨c', d, e1, e2⟩
      · exact absurd e hp
      · rw [s1] at e1; simp only [shapeO, Option.some.injEq] at e1; subst e1; exact ⟨d, e2⟩
    · exact absurd a4 hp) hs
  simp only [Nat.zero_add] at hv2 hv3
  -- how an object stands behind the call
  have ownI : ∀ {k : Nat} {o0 : Obj} {u : MB}, objs0 outs k = some o0 → m' k = some u → ∀ b x, Own u o0 b x → (w.heap.size ≤ b ∨ OwnJ (boundJ n N dn ρ) σb m1 b x) ∧ ¬ S2 b x := by
    intro k o0 u ho hu b x hx
    have hst : OwnSt (objs0 outs) m' b x := ⟨k, o0, u, ho, hu, hx⟩
    refine ⟨(hext.own b x hst).symm.imp (fun q => q) fun q => h.ownJ q, fun hs2 => ?_⟩
    rcases hs2 with hs2 | ⟨hs2, _⟩
    · rcases hext.own b x hst with q | q
      · exact h.stb.notS hs2 (h.ownJ (N := N) q).st
      · have := h.stb.live b x hs2; omega
    · exact hS.notS hs2 hst
  have kind : ∀ i o, boundJ n N dn ρ i → upds v σ i = some o →
      (∃ k o0 u, backM ρ n N dn k = some (i, []) ∧ outs[k]? = some (some o0) ∧ m' k = some u ∧ callM n N dn m1 m' i = some u ∧ ObjOk w' S2 (callM n N dn m1 m') u o ∧ ∀ b x, Own u o b x ↔ Own u o0 b x) ∨
      (∃ k p c0 t0 c t y d v0 u', p ≠ [] ∧ ρ.find k = some (i, p) ∧ k < n ∧ σ1 i = some (.cell c0 false t0) ∧ σb i = some (.cell c0 false t0) ∧ o = .cell c0 false y ∧ codeAt c0 p = some d ∧ m1 i = some v0 ∧ outs[k]? = some (some (.cell c false t)) ∧
        m' k = some u' ∧ u' = subM v0 p ∧ c = d ∧ ObjOk w' S2 (callM n N dn m1 m') v0 o ∧ ∀ b x, Own v0 o b x → Own v0 (.cell c0 false t0) b x) := by
    intro i o hi ho
    have hk : ∃ k p, backM ρ n N dn k = some (i, p) ∧ k < N := by
      rcases hi with ⟨k, p, hf⟩ | ⟨k, k1, k2, k3⟩
      · have hlt := h.keys _ _ _ hf
        exact ⟨k, p, by simp [backM, (Nat.blt_eq ▸ hlt : Nat.blt k n = true), hf], by omega⟩
      · refine ⟨k, [], ?_, k2⟩
        have e1 : Nat.blt k n = false := by cases hq : Nat.blt k n with
          | false => rfl
          | true => rw [Nat.blt_eq] at hq; omega
        have e2 : Nat.blt k N = true := by rw [Nat.blt_eq]; exact k2
        simp [backM, e1, e2, k3]
    obtain ⟨k, p, hb, hkN⟩ := hk
    obtain ⟨ob, hob⟩ : ∃ ob, outs[k]? = some ob := ⟨outs[k]'(by omega), List.getElem?_eq_getElem (by omega)⟩
    obtain ⟨id, p', q1, q2⟩ := hv3 k ob hob
    rw [hb] at q1; cases q1
    rcases q2 with ⟨e1, e2⟩ | ⟨c0, t0, c, fz, t, y, d, e1, e2, e3, e4, e5, e6, vs, e7, e8, e9, e10⟩
    · left
      subst e1
      rw [ho] at e2
      cases ob with
      | none => cases e2
      | some o0 =>
        obtain ⟨u, g1, g2⟩ := hS.sto k o0 (objs0_of hob)
        have g3 := g2.to (ρ := backM ρ n N dn) hinto (hkeep' hob) e2.symm
        refine ⟨k, o0, u, hb, hob, g1, ?_, g3⟩
        obtain ⟨v', i1, i2, _⟩ := hinto k i [] u hb g1
        have i2 : u = v' := i2
        subst i2; exact i1
    · right
      rw [ho] at e4; cases e4
      subst e3
      have hz := hfz _ _ _ _ hob
      subst hz
      obtain ⟨s1, s2⟩ := hσ _ _ _ e2
      obtain ⟨a1, a2⟩ : k < n ∧ ρ.find k = some (i, p) := by
        rcases backM_some hb with q | ⟨_, _, _, q⟩
        · exact q
        · exact absurd q e1
      obtain ⟨v0, hv0⟩ := h.bnd _ _ _ a2
      have hmk := hpre k (subM v0 p) a1 (by simp [bindM, a2, hv0])
      obtain ⟨c', t', u', r1, r2, r3, r4, r5⟩ := e7
      rw [hob] at r1; cases r1
      rw [hmk] at r2; cases r2
      obtain ⟨v1, p1, p2⟩ := h.stb.sto _ _ s2
      rw [hv0] at p1; cases p1
      obtain ⟨p3, p4, p5, cs, p6, p7, p8, -⟩ := p2
      have hcd : c = d := by rw [← r3]; exact subM_code (by rw [p4]; exact e5)
      subst hcd
      have p7' : RepC w' S2 (callM n N dn m1 m') t0 cs := p7.keep hkb fun _ _ q => callM_old q
      obtain ⟨t1, t2⟩ := e10 cs p7'
      have hcl := RepC.length p5 p7
      rw [subM_b, subM_o, p4] at r4 r5
      have outside : ∀ j, j < cs.length → (j < offK c0 p ∨ offK c0 p + vs.length ≤ j) → ¬ OwnSt ins (bindM ρ m1) v0.b (v0.o + j) := by
        intro j hj hjo hx
        have := h.part a2 e1 s1 hv0 e5 ⟨rfl, rfl, by omega, by omega⟩ hx
        omega
      have hblk : ∀ j, j < cs.length → v0.b < w.heap.size := fun j hj => h.stb.own_lt ⟨i, _, v0, s2, hv0, rfl, rfl, (by omega : v0.o ≤ v0.o + j), (by omega)⟩
      refine ⟨k, p, c0, t0, c, t, y, c, v0, _, e1, a2, a1, s1, s2, rfl, e5, hv0, hob, hmk, rfl, rfl, ⟨p3, p4, e6, _, ?_, t1, fun _ j hj => ?_, fun q => by cases q⟩, fun b x q => q⟩
      · exact rangeAt_glue p6 r4 (by omega) fun j hj hjo => (hext.cell _ _ (hblk j hj) (outside j hj hjo)).1
      · by_cases hin : offK c0 p ≤ j ∧ j < offK c0 p + c.size
        · have := r5 (j - offK c0 p) (by omega)
          rwa [show v0.o + offK c0 p + (j - offK c0 p) = v0.o + j by omega] at this
        · rw [(hext.cell _ _ (hblk j (by omega)) (outside j (by omega) (by omega))).2]
          exact p8 rfl j hj
  obtain ⟨k1, k2, k3⟩ := h.stb.change (J := boundJ n N dn ρ) (F := OwnSt ins (bindM ρ m1)) (σ' := upds v σ) (m' := callM n N dn m1 m') (S' := S2)
    (fun i hi => by
      rw [hv2 i (fun a ha p q => hi ?_)]
      · exact hu i
      · rcases backM_some q with ⟨_, a2⟩ | ⟨a1, a2, a3, _⟩
        · exact .inl ⟨a, p, a2⟩
        · exact .inr ⟨a, a1, a2, a3⟩)
    (fun i u q => callM_old q) hT (fun b x q _ => h.ownJ q) (fun b x q => .inl q)
    (fun b x q => by
      rcases q with q | ⟨q1, q2⟩
      · exact .inl q
      · rcases hext.less b x q1 with h1 | h1 | h1
        · rcases h.cells b x h1 with h2 | ⟨i, o, u, h2, h3, h4⟩
          · exact .inl h2
          · by_cases hj : boundJ n N dn ρ i
            · exact .inr (.inr ⟨i, o, u, hj, h2, h3, h4⟩)
            · exact absurd ⟨i, o, u, hj, h2, h3, h4⟩ q2
        · exact .inr (.inr (h.ownJ h1))
        · exact .inr (.inl ⟨h1, hS.live b x q1⟩))
    (fun i o hi ho => by
      rcases kind i o hi ho with ⟨k, o0, u, g1, g2, g3, g4, g5, g6⟩ | ⟨k, p, c0, t0, c, t, y, d, v0, u', g1, g2, g3, g4, g5, g6, g7, g8, g9, g10, g11, g12, g13, g14⟩
      · exact ⟨u, g4, g5, fun b x hx => ownI (objs0_of g2) g3 b x ((g6 b x).1 hx)⟩
      · refine ⟨v0, callM_old g8, g13, fun b x hx => ?_⟩
        have hx' := g14 b x hx
        refine ⟨.inr ⟨i, _, v0, hi, g5, g8, hx'⟩, fun hs2 => ?_⟩
        rcases hs2 with hs2 | ⟨hs2, _⟩
        · exact h.stb.stab i _ v0 g5 g8 b x hs2 hx'
        · rcases hext.less b x hs2 with q | q | q
          · exact h.st1.stab i _ v0 g4 g8 b x q hx'
          · obtain ⟨q1, q2, q3⟩ := h.part g2 g1 g4 g8 g7 hx' q
            have hcode : v0.code = c0 := by
              obtain ⟨v1, p1, p2⟩ := h.st1.sto _ _ g4
              rw [g8] at p1; cases p1; exact p2.2.1
            refine hS.stab k _ u' (objs0_of g9) g10 b x hs2 ⟨rfl, ?_, ?_, ?_⟩
            · rw [g11, subM_b]; exact q1
            · rw [g11, subM_o, hcode]; exact q2
            · rw [g11, subM_o, hcode, g12]; exact q3
          · have := h.stb.own_lt (b := b) (x := x) ⟨i, _, v0, g5, g8, hx'⟩; omega)
    (fun i j o p u u2 hi hj hij ho hp hu hu2 b x hx hy => by
      -- one that is the callee's, and a variable that a part of was handed on
      have mixed : ∀ {i k : Nat} {o0 : Obj} {u : MB}, backM ρ n N dn k = some (i, []) → outs[k]? = some (some o0) → m' k = some u → Own u o0 b x →
          ∀ {j k' : Nat} {p : List Step} {c0 : K} {t0 : T} {c : K} {t : T} {d : K} {v0 u' : MB}, i ≠ j → p ≠ [] → ρ.find k' = some (j, p) → k' < n → σ1 j = some (.cell c0 false t0) → codeAt c0 p = some d → m1 j = some v0 →
            outs[k']? = some (some (.cell c false t)) → m' k' = some u' → u' = subM v0 p → c = d → Own v0 (.cell c0 false t0) b x → False := by
        intro i k o0 u g1 g2 g3 g4 j k' p c0 t0 c t d v0 u' hij f1 f2 f3 f4 f7 f8 f9 f10 f11 f12 hy
        have hcode : v0.code = c0 := by
          obtain ⟨v1, p1, p2⟩ := h.st1.sto _ _ f4
          rw [f8] at p1; cases p1; exact p2.2.1
        rcases hext.own b x ⟨k, o0, u, objs0_of g2, g3, g4⟩ with q | q
        · obtain ⟨q1, q2, q3⟩ := h.part f2 f1 f4 f8 f7 hy q
          have hkk : k ≠ k' := fun e => by
            subst e
            rw [show backM ρ n N dn k = some (j, p) by simp [backM, (Nat.blt_eq ▸ f3 : Nat.blt k n = true), f2]] at g1
            cases g1; exact f1 rfl
          refine hS.apart k k' _ _ u u' hkk (objs0_of g2) (objs0_of f9) g3 f10 b x g4 ⟨rfl, ?_, ?_, ?_⟩
          · rw [f11, subM_b]; exact q1
          · rw [f11, subM_o, hcode]; exact q2
          · rw [f11, subM_o, hcode, f12]; exact q3
        · have := h.st1.own_lt (b := b) (x := x) ⟨j, _, v0, f4, f8, hy⟩; omega
      rcases kind i o hi ho with ⟨k, o0, ui, g1, g2, g3, g4, g5, g6⟩ | ⟨k, q, c0, t0, c, t, y, d, v0, u', g1, g2, g3, g4, g5, g6, g7, g8, g9, g10, g11, g12, g13, g14⟩
      · rw [hu] at g4; cases g4
        rcases kind j p hj hp with ⟨k', o0', uj, f1, f2, f3, f4, f5, f6⟩ | ⟨k', q, c0, t0, c, t, y, d, v0, u', f1, f2, f3, f4, f5, f6, f7, f8, f9, f10, f11, f12, f13, f14⟩
        · rw [hu2] at f4; cases f4
          have hkk : k ≠ k' := fun e => by subst e; rw [g1] at f1; cases f1; exact hij rfl
          exact hS.apart k k' _ _ u u2 hkk (objs0_of g2) (objs0_of f2) g3 f3 b x ((g6 b x).1 hx) ((f6 b x).1 hy)
        · have e := callM_old (n := n) (N := N) (dn := dn) (m' := m') f8
          rw [hu2] at e; cases e
          exact mixed g1 g2 g3 ((g6 b x).1 hx) hij f1 f2 f3 f4 f7 f8 f9 f10 f11 f12 (f14 b x hy)
      · have e := callM_old (n := n) (N := N) (dn := dn) (m' := m') g8
        rw [hu] at e; cases e
        rcases kind j p hj hp with ⟨k', o0', uj, f1, f2, f3, f4, f5, f6⟩ | ⟨k', q', c0', t0', c', t', y', d', v0', u'', f1, f2, f3, f4, f5, f6, f7, f8, f9, f10, f11, f12, f13, f14⟩
        · rw [hu2] at f4; cases f4
          exact mixed f1 f2 f3 ((f6 b x).1 hy) (fun e => hij e.symm) g1 g2 g3 g4 g7 g8 g9 g10 g11 g12 (g14 b x hx)
        · have e := callM_old (n := n) (N := N) (dn := dn) (m' := m') f8
          rw [hu2] at e; cases e
          exact h.st1.apart i j _ _ _ _ hij g4 f4 g8 f8 b x (g14 b x hx) (f14 b x hy))
  exact ⟨v, S2, hv1, ⟨k1, k2, k3⟩, hSS⟩
end
end Go.Proofs.D

/- What an evaluator's piece hands on does not hang on who takes it. -/
namespace Go.Proofs.D
open Go.RowKit

section

theorem natK_nat {R : Type} (i : Int) (k : Nat → Option R) : natK i k = (natK i some).bind k := by cases i <;> rfl
theorem nthN_nat {R α : Type} (l : List α) (n : Nat) (k : α → Option R) : nthN l n k = (nthN l n some).bind k := by
  unfold nthN; cases l[n]? <;> rfl
theorem nthK_nat {R α : Type} (l : List α) (i : Int) (k : α → Option R) : nthK l i k = (nthK l i some).bind k := by
  cases i with
  | ofNat n => exact nthN_nat l n k
  | negSucc n => rfl
theorem bif_nat {R α : Type} (b : Bool) (x : α) (k : α → Option R) : (bif b then k x else none) = (bif b then some x else none).bind k := by cases b <;> rfl

theorem getE_nat : ∀ {R : Type} (c : K) (x : El c) (p : List Step) (k : T → Option R), getE c x p k = (getE c x p some).bind k
  | _, c, x, [], k => by cases c <;> rfl
  | _, .cons a b, x, .fld 0 :: p, k => by simp only [getE]; exact getE_nat a x.1 p k
  | _, .cons a b, x, .fld (j + 1) :: p, k => by simp only [getE]; exact getE_nat b x.2 (.fld j :: p) k
  | _, .arr n e, x, .idx i :: p, k => by
    simp only [getE]
    rw [nthK_nat x i, nthK_nat x i (fun y => getE e y p some)]
    cases nthK x i some with
    | none => rfl
    | some y => exact getE_nat e y p k
  | _, .cons a b, x, .idx i :: p, k => by simp [getE]
  | _, .arr n e, x, .fld j :: p, k => by simp [getE]
  | _, .int _, x, .fld j :: p, k => by simp [getE]
  | _, .int _, x, .idx j :: p, k => by simp [getE]
  | _, .bool, x, .fld j :: p, k => by simp [getE]
  | _, .bool, x, .idx j :: p, k => by simp [getE]
  | _, .str, x, .fld j :: p, k => by simp [getE]
  | _, .hdr, x, .fld j :: p, k => by simp [getE]
  | _, .str, x, .idx j :: p, k => by simp [getE]
  | _, .hdr, x, .idx j :: p, k => by simp [getE]
  | _, .ref _, x, .fld j :: p, k => by simp [getE]
  | _, .ref _, x, .idx j :: p, k => by simp [getE]
  | _, .slice _, x, .fld j :: p, k => by simp [getE]
  | _, .slice _, x, .idx j :: p, k => by simp [getE]
  | _, .unit, x, .fld j :: p, k => by simp [getE]
  | _, .unit, x, .idx j :: p, k => by simp [getE]

theorem setD_nat : ∀ {R : Type} (c : K) (x : El c) (p : List Step) (t : T) (k : El c → Option R), setD c x p t k = (setD c x p t some).bind k
  | _, c, x, [], t, k => by cases c <;> (simp only [setD]; split <;> rfl)
  | _, .cons a b, x, .fld 0 :: p, t, k => by
    simp only [setD]
    rw [setD_nat a x.1 p t, setD_nat a x.1 p t (fun u => some (u, x.2))]
    cases setD a x.1 p t some <;> rfl
  | _, .cons a b, x, .fld (j + 1) :: p, t, k => by
    simp only [setD]
    rw [setD_nat b x.2 (.fld j :: p) t, setD_nat b x.2 (.fld j :: p) t (fun u => some (x.1, u))]
    cases setD b x.2 (.fld j :: p) t some <;> rfl
  | _, .arr n e, x, .idx i :: p, t, k => by
    simp only [setD]
    rw [natK_nat i, natK_nat i (fun n => nthN x n fun y => setD e y p t fun u => some (x.set n u))]
    cases natK i some with
    | none => rfl
    | some n =>
      simp only [Option.bind_some]
      rw [nthN_nat x n, nthN_nat x n (fun y => setD e y p t fun u => some (x.set n u))]
      cases nthN x n some with
      | none => rfl
      | some y =>
        simp only [Option.bind_some]
        rw [setD_nat e y p t, setD_nat e y p t (fun u => some (x.set n u))]
        cases setD e y p t some <;> rfl
  | _, .cons a b, x, .idx i :: p, t, k => by simp [setD]
  | _, .arr n e, x, .fld j :: p, t, k => by simp [setD]
  | _, .int _, x, .fld j :: p, t, k => by simp [setD]
  | _, .int _, x, .idx j :: p, t, k => by simp [setD]
  | _, .bool, x, .fld j :: p, t, k => by simp [setD]
  | _, .bool, x, .idx j :: p, t, k => by simp [setD]
  | _, .str, x, .fld j :: p, t, k => by simp [setD]
  | _, .hdr, x, .fld j :: p, t, k => by simp [setD]
  | _, .str, x, .idx j :: p, t, k => by simp [setD]
  | _, .hdr, x, .idx j :: p, t, k => by simp [setD]
  | _, .ref _, x, .fld j :: p, t, k => by simp [setD]
  | _, .ref _, x, .idx j :: p, t, k => by simp [setD]
  | _, .slice _, x, .fld j :: p, t, k => by simp [setD]
  | _, .slice _, x, .idx j :: p, t, k => by simp [setD]
  | _, .unit, x, .fld j :: p, t, k => by simp [setD]
  | _, .unit, x, .idx j :: p, t, k => by simp [setD]

theorem setV_nat : ∀ {R : Type} (c : K) (x : El c) (p : List Step) (t : T) (k : T → Option R), setV c x p t k = (setV c x p t some).bind k
  | _, c, x, [], t, k => by cases c <;> (simp only [setV]; exact bif_nat _ _ _)
  | _, .cons a b, x, .fld 0 :: p, t, k => by
    simp only [setV]
    rw [setV_nat a x.1 p t, setV_nat a x.1 p t (fun u => some (T.mk2 u (.val b x.2)))]
    cases setV a x.1 p t some <;> rfl
  | _, .cons a b, x, .fld (j + 1) :: p, t, k => by
    simp only [setV]
    rw [setV_nat b x.2 (.fld j :: p) t, setV_nat b x.2 (.fld j :: p) t (fun u => some (T.mk2 (.val a x.1) u))]
    cases setV b x.2 (.fld j :: p) t some <;> rfl
  | _, .arr n e, x, .idx i :: p, t, k => by
    simp only [setV]
    rw [setD_nat (.arr n e) x (.idx i :: p) t, setD_nat (.arr n e) x (.idx i :: p) t (fun u => some (T.val (.arr n e) u))]
    cases setD (.arr n e) x (.idx i :: p) t some <;> rfl
  | _, .cons a b, x, .idx i :: p, t, k => by simp [setV]
  | _, .arr n e, x, .fld j :: p, t, k => by simp [setV]
  | _, .int _, x, .fld j :: p, t, k => by simp [setV]
  | _, .int _, x, .idx j :: p, t, k => by simp [setV]
  | _, .bool, x, .fld j :: p, t, k => by simp [setV]
  | _, .bool, x, .idx j :: p, t, k => by simp [setV]
  | _, .str, x, .fld j :: p, t, k => by simp [setV]
  | _, .hdr, x, .fld j :: p, t, k => by simp [setV]
  | _, .str, x, .idx j :: p, t, k => by simp [setV]
  | _, .hdr, x, .idx j :: p, t, k => by simp [setV]
  | _, .ref _, x, .fld j :: p, t, k => by simp [setV]
  | _, .ref _, x, .idx j :: p, t, k => by simp [setV]
  | _, .slice _, x, .fld j :: p, t, k => by simp [setV]
  | _, .slice _, x, .idx j :: p, t, k => by simp [setV]
  | _, .unit, x, .fld j :: p, t, k => by simp [setV]
  | _, .unit, x, .idx j :: p, t, k => by simp [setV]

theorem setT_nil {R : Type} (c : K) (u t : T) (k : T → Option R) (h : ∀ c' x, u ≠ .val c' x) : setT c u [] t k = (bif t.fits c then k t else none) := by
  cases u <;> first | (exact absurd rfl (h _ _)) | (cases c <;> first | rfl | (rename_i n e; cases n <;> rfl))

theorem setT_nat (c : K) (u : T) (p : List Step) (t : T) : ∀ {R : Type} (k : T → Option R), setT c u p t k = (setT c u p t some).bind k := by
  induction u generalizing c p with
  | val c' x =>
    intro R k
    have e : ∀ k : T → Option R, setT c (.val c' x) p t k = setV c' x p t k := fun k => by cases c <;> first | rfl | (rename_i n e; cases n <;> rfl)
    have e2 : setT c (.val c' x) p t some = setV c' x p t some := by cases c <;> first | rfl | (rename_i n e; cases n <;> rfl)
    rw [e, e2]; exact setV_nat ..
  | pair x y ihx ihy =>
    intro R k
    cases p with
    | nil => rw [setT_nil _ _ _ _ (fun _ _ q => by cases q), setT_nil _ _ _ _ (fun _ _ q => by cases q)]; exact bif_nat _ _ _
    | cons q p =>
      cases c with
      | cons a b =>
        cases q with
        | fld j =>
          cases j with
          | zero =>
            simp only [setT]
            rw [ihx a p, ihx a p (fun u => some (T.mk2 u y))]
            cases setT a x p t some <;> rfl
          | succ j =>
            simp only [setT]
            rw [ihy b (.fld j :: p), ihy b (.fld j :: p) (fun u => some (T.mk2 x u))]
            cases setT b y (.fld j :: p) t some <;> rfl
        | idx i => simp [setT]
      | arr n e =>
        cases n with
        | zero => simp [setT]
        | succ n =>
          cases q with
          | fld j => simp [setT]
          | idx i =>
            cases i with
            | ofNat j =>
              cases j with
              | zero =>
                simp only [setT]
                rw [ihx e p, ihx e p (fun u => some (T.pair u y))]
                cases setT e x p t some <;> rfl
              | succ j =>
                simp only [setT]
                rw [ihy (.arr n e) (.idx (.ofNat j) :: p), ihy (.arr n e) (.idx (.ofNat j) :: p) (fun u => some (T.pair x u))]
                cases setT (.arr n e) y (.idx (.ofNat j) :: p) t some <;> rfl
            | negSucc j => simp [setT]
      | _ => simp [setT]
  | _ =>
    intro R k
    cases p with
    | nil => rw [setT_nil _ _ _ _ (fun _ _ q => by cases q), setT_nil _ _ _ _ (fun _ _ q => by cases q)]; exact bif_nat _ _ _
    | cons q p => cases c <;> simp [setT]

theorem settle_nat {R : Type} {σ : Sto} {ρ : Nat → Option (Nat × List Step)} : ∀ {j : Nat} {l : List (Option Obj)} {u : Ups} {k : Ups → Option R}, settle σ ρ j l u k = (settle σ ρ j l u some).bind k
  | j, [], u, k => rfl
  | j, o :: r, u, k => by
    simp only [settle]
    split
    · rfl
    · split <;> exact settle_nat
    · split
      · rw [setT_nat, setT_nat _ _ _ _ (fun v => settle _ _ _ _ _ some), Option.bind_assoc]
        congr 1
        funext v
        exact settle_nat
      · rfl
end
end Go.Proofs.D

/- Calls: an operation that calls a function does what the evaluator says. -/
namespace Go.Proofs.D
open Go.RowKit

section
variable {P : Program} {C : Ctx} {s : St} {a : Act} {w w' : World} {S S' S2 : Cells} {m m' : Nat → Option MB} {R : Type} {κ : T → Ups → Option R} {r : R} {o : Oper}

theorem RepV.flatT {t : T} {v : Value} (hf : t.flatT = true) (h : RepV w S m t v) : RepV w S2 m t v := h.imp id fun ⟨cs, h, hs⟩ => ⟨cs, RepC.flatT hf h, hs⟩

theorem bindsOk_find {σ : Sto} {n : Nat} : ∀ {ρ : Binds} {k id : Nat} {p : List Step}, bindsOk σ n ρ = true → ρ.find k = some (id, p) → k < n ∧ (p = [] ∨ ∃ c d, shapeO (σ id) = some c ∧ codeAt c p = some d)
  | [], k, id, p, _, h => by cases h
  | (j, id', p') :: r, k, id, p, hb, h => by
    simp only [bindsOk, Bool.and_eq_true] at hb
    obtain ⟨⟨h1, h2⟩, h3⟩ := hb
    rw [find_cons] at h
    cases hkj : Nat.beq j k with
    | false => rw [hkj] at h; exact bindsOk_find h3 h
    | true =>
      rw [hkj] at h; cases h
      have := Nat.eq_of_beq_eq_true hkj
      subst this
      refine ⟨by simpa [Nat.blt_eq] using h1, ?_⟩
      cases p' with
      | nil => exact .inl rfl
      | cons q r =>
        right
        simp only [List.isEmpty_cons, Bool.false_or] at h2
        unfold shapeP at h2
        split at h2
        · rename_i c hc
          cases hd : codeAt c (q :: r) with
          | none => rw [hd] at h2; cases h2
          | some d => exact ⟨c, d, hc, hd⟩
        · cases h2

theorem fillOs_fz {l : List ObSk} {x : ObsEl l} {a : Nat} {c : K} {fz : Bool} {t : T} (h : (fillOs l x)[a]? = some (some (.cell c fz t))) : fz = false := by
  obtain ⟨o, y, _, e⟩ := fillOs_get h
  cases o <;> simp [fillO] at e
  exact e.2.1
theorem fillOs_length : ∀ (l : List ObSk) (x : ObsEl l), (fillOs l x).length = l.length
  | [], _ => rfl
  | o :: l, x => by simp [fillOs, fillOs_length l x.2]
theorem fillOs_flat {l : List ObSk} {x : ObsEl l} (h : flatL l = true) (a : Nat) (o : Obj) (ho : (fillOs l x)[a]? = some (some o)) : flatObj o = true := by
  obtain ⟨os, y, h1, e⟩ := fillOs_get ho
  exact flatObj_fill (flatL_get h h1) e.symm

theorem call_ok (hr : Rel s a.tmps w S m) {f : FuncId} {sg : Sig} (hs : Sound P f sg) {dn : Nat} (h1 : dn < 99000) (h2 : s.done dn = false) {args : T} {vals : List Value} (ha : RepC w S m args vals) {none' : Unit → Option R}
    (he : callK sg dn args s.sto κ none' = some r) :
    none' () = some r ∨ ∃ t ups, κ t ups = some r ∧ Upon P ((callFunc f vals.toArray).run P w) (After s a.tmps w S m true dn t ups) := by
  unfold callK at he
  split at he
  · exact .inl he
  rename_i x u hx
  split at he
  · exact .inl he
  rename_i ob ρ ups hob
  cases hc : (distinct ρ.ids && flagsOk (upds ups s.sto) ρ 0 sg.objs && bindsOk (upds ups s.sto) sg.objs.length ρ && Nat.ble sg.objs.length sg.outs.length && Nat.ble sg.outs.length 500) with
  | false => rw [hc] at he; exact .inl he
  | true =>
  rw [hc] at he
  simp only [cond_true] at he
  simp only [Bool.and_eq_true] at hc
  obtain ⟨⟨⟨⟨c1, c2⟩, c3⟩, c4⟩, c5⟩ := hc
  have hn : sg.objs.length ≤ sg.outs.length := Nat.le_of_ble_eq_true c4
  have hN : sg.outs.length ≤ 500 := Nat.le_of_ble_eq_true c5
  obtain ⟨y, hy, hse⟩ := Option.bind_eq_some_iff.1 he
  clear he
  right
  have hfresh := hr.fresh dn h1 h2
  have hnb : ∀ k, k < 500 → m (1000500 + 1000 * dn + k) = none := fun k hk => by
    have := hfresh.2 (500 + k) (by omega)
    rwa [show 1000000 + 1000 * dn + (500 + k) = 1000500 + 1000 * dn + k by omega] at this
  have l0 : Later (1000500 + 1000 * dn) s.sto w S m ([], []) S m :=
    ⟨Step1.refl hr.toStoRel, More.refl _, fun i v q => .inl q, (fun i o q => by cases q), (fun i o q1 q2 => by have q2 : s.sto i = some o := q2; rw [q1] at q2; cases q2), (fun _ k id p q => by cases q)⟩
  obtain ⟨⟨S0, m0, f0, told⟩, _⟩ := unT_ok hr.toStoRel hnb l0 ha hx
  obtain ⟨S1, m1, f1, tolds⟩ := unOs_ok hr.toStoRel hnb f0.later hob
  have lt := f1.later
  have told1 := told ρ S1 m1 f1.le f1.keeps f1.maps
  obtain ⟨sti, _, place⟩ := un_final lt (fun j ob q => by have := tolds j ob q; rwa [Nat.zero_add] at this) c1 c2
  have hkeys : ∀ k id p, ρ.find k = some (id, p) → k < sg.objs.length := fun k id p q => (bindsOk_find c3 q).1
  have hbig : ∀ i, sg.objs.length ≤ i → bindM ρ m1 i = none := fun i hi => by
    unfold bindM
    split
    · rename_i id p q; have := hkeys _ _ _ q; omega
    · rfl
  have hnew : ∀ k, k < 500 → m1 (1000000 + 1000 * dn + k) = none := fun k hk => by
    cases hq : m1 (1000000 + 1000 * dn + k) with
    | none => rfl
    | some v =>
      rcases lt.ids _ _ hq with q | ⟨k', _, q, _⟩
      · rw [hfresh.2 k (by omega)] at q; cases q
      · omega
  have hsound := hs w S1 (bindM ρ m1) (x, ob) y vals hy told1
    ⟨sti, fun t => .inl rfl, fun d hd _ => ⟨hbig _ (by omega), fun k hk => hbig _ (by omega)⟩, fun i hi => hbig _ (by omega)⟩ (fun i hi => hbig _ (by omega))
  -- the base that the call is settled upon
  have base : ∃ σb Sb u0, u0 = (bif sg.ret.flat && flatL sg.outs then news (1000500 + 1000 * dn) ups else ups) ∧ (∀ i, upds u0 s.sto i = σb i) ∧ Step1 s.sto w S m σb w Sb m1 ∧ Called sg.objs.length dn ρ (objs0 (fillOs sg.objs ob)) (upds ups s.sto) σb w S1 Sb m1 ∧
      ((∀ b x, S1 b x → Sb b x) ∨ (sg.ret.flat = true ∧ flatL sg.outs = true)) ∧ (∀ id c0 t0, s.sto id = some (.cell c0 false t0) → upds ups s.sto id = some (.cell c0 false t0) ∧ σb id = some (.cell c0 false t0)) := by
    have bnd := lt.bnd (by omega)
    have path := fun k id p q => (bindsOk_find (k := k) (id := id) (p := p) c3 q).2
    cases hfl : (sg.ret.flat && flatL sg.outs) with
    | false =>
      exact ⟨upds ups s.sto, S1, ups, rfl, fun i => rfl, lt.step,
        ⟨lt.step.rel, lt.step.rel, sti, More.refl _, fun i o q => ⟨o, q⟩, fun b x q => q, fun b x q => .inl q, hkeys, path, bnd, fun i j id p q h3 h4 => distinct_find c1 h3 h4, hnew, place⟩,
        .inl fun b x q => q, fun id c0 t0 q => ⟨lt.more _ _ q, lt.more _ _ q⟩⟩
    | true =>
      simp only [Bool.and_eq_true] at hfl
      obtain ⟨st, hsp⟩ := news_step hr.toStoRel hnb lt
      refine ⟨upds (news (1000500 + 1000 * dn) ups) s.sto, S, news (1000500 + 1000 * dn) ups, rfl, fun i => rfl, st,
        ⟨lt.step.rel, st.rel, sti, fun i o q => ?_, fun i o q => ?_, lt.step.keeps.more, fun b x q => ?_, hkeys, path, bnd, fun i j id p q h3 h4 => distinct_find c1 h3 h4, hnew, place⟩,
        .inr hfl, fun id c0 t0 q => ⟨lt.more _ _ q, by rw [hsp id, q]⟩⟩
      · rw [hsp i] at q
        cases hq : s.sto i with
        | none => rw [hq] at q; exact More.refl _ i o q
        | some o' => rw [hq] at q; cases q; exact lt.more i o hq
      · rw [hsp i]
        cases hq : s.sto i with
        | none => exact ⟨o, q⟩
        | some o' => exact ⟨o', rfl⟩
      · rcases lt.step.ext.less b x q with q | ⟨i, o, u, q1, q2, q3⟩ | q2
        · exact .inl q
        · exact .inr ⟨i, o, u, by rw [hsp i, q1], lt.step.ext.maps _ _ q2, q3⟩
        · have := lt.step.rel.live b x q; omega
  obtain ⟨σb, Sb, u0, hu0, hu1, stb, hcd, hkeep, hσ⟩ := base
  rw [← hu0] at hse
  rw [settle_nat] at hse
  obtain ⟨vv, hvv, hk⟩ := Option.bind_eq_some_iff.1 hse
  clear hse
  refine ⟨_, vv, hk, hsound.mono fun v w' ⟨S', m', e1, e2, e3, e4⟩ => ?_⟩
  obtain ⟨v2, S2, k1, k2, k3⟩ := hcd.settle (N := sg.outs.length) hN hn (fillOs_length _ _) (fun a c fz t q => fillOs_fz q) hσ hu1 (hkeep.imp (fun q => q) fun q a o ho => fillOs_flat q.2 a o ho) e2.toStoRel e3 e4 hvv
  have hinto := hcd.into (N := sg.outs.length) hN e3
  cases k1
  refine After.of hr (stb.trans k2) ?_ fun i u q => ?_
  · rcases hkeep with q | q
    · exact backV_ok hinto (e1.keep ⟨k3 q, fun _ _ _ _ h => h⟩ fun _ _ q => q)
    · exact backV_ok hinto (RepV.flatT (flatT_fill _ _ q.1) e1)
  · rcases callM_inv q with q | ⟨k, q1, q2, q3⟩
    · rcases lt.ids _ _ q with q | ⟨k, q1, q2, _⟩
      · exact .inl q
      · exact .inr ⟨rfl, h1, .inr ⟨500 + k, by omega, by omega⟩⟩
    · exact .inr ⟨rfl, h1, .inr ⟨k, by omega, q3⟩⟩

theorem callsK_ok (hr : Rel s a.tmps w S m) {f : FuncId} {dn : Nat} (h1 : dn < 99000) (h2 : s.done dn = false) {args : T} {vals : List Value} (ha : RepC w S m args vals) : ∀ {l : List Sig}, (∀ sg ∈ l, Sound P f sg) →
    callsK l dn args s.sto κ = some r → ∃ t ups, κ t ups = some r ∧ Upon P ((callFunc f vals.toArray).run P w) (After s a.tmps w S m true dn t ups)
  | [], _, he => by cases he
  | sg :: l, hs, he => by
    rcases call_ok hr (hs sg (by simp)) h1 h2 ha he with h | h
    · exact callsK_ok hr h1 h2 ha (fun sg q => hs sg (by simp [q])) h
    · exact h

theorem Does.of_upon {f : Value → World → Prop} (h : Upon P ((execOp a.eval o).run P w) f) : Does P o a w f := by
  intro next Q k
  unfold Oper.wp
  unfold Upon at h
  split at h
  · rename_i v w' hv; rw [hv]; exact k _ _ h
  · rename_i g args w' hv
    rw [hv, Oper.upon_enter]
    exact h.mono fun e w' ⟨v, he, hr⟩ => by subst he; exact k _ _ hr
  · exact h.elim

theorem T.app_ok {c : T} {ws : List Value} (hc : RepC w S m c ws) (hr : Rel s a.tmps w S m) : ∀ {xs : List Operand} {tys : List (Option K)} {t : T}, chainT s.env tys xs = some t → RepC w S m (t.app c) (xs.map a.eval ++ ws)
  | [], _, t, h => by simp only [chainT, Option.some.injEq] at h; subst h; exact hc
  | x :: xs, tys, t, h => by
    simp only [chainT] at h
    obtain ⟨u, hu, h⟩ := Option.bind_eq_some_iff.1 h
    obtain ⟨q, hq, e⟩ := Option.map_eq_some_iff.1 h
    cases e
    exact ⟨_, _, rfl, opnd_ok hr hu, T.app_ok hc hr hq⟩

theorem T.app_rep {u : T} {ws : List Value} (hu : RepC w S m u ws) : ∀ {t : T} {vs : List Value}, t.isChain = true → RepC w S m t vs → RepC w S m (t.app u) (vs ++ ws)
  | .tn, vs, _, h => by
    have h : vs = [] := h
    subst h; exact hu
  | .tc x y, vs, hc, ⟨v, r, e, h1, h2⟩ => by
    subst e
    exact ⟨v, r ++ ws, rfl, h1, T.app_rep hu hc h2⟩
  | .any _, _, h, _ => by cases h
  | .und, _, h, _ => by cases h
  | .val _ _, _, h, _ => by cases h
  | .nils _, _, h, _ => by cases h
  | .nilr _, _, h, _ => by cases h
  | .ptr _ _, _, h, _ => by cases h
  | .row _, _, h, _ => by cases h
  | .rptr _ _, _, h, _ => by cases h
  | .mapr _, _, h, _ => by cases h
  | .clo _ _, _, h, _ => by cases h
  | .unit, _, h, _ => by cases h
  | .pair _ _, _, h, _ => by cases h
  | .tup _, _, h, _ => by cases h

theorem ok_callV (hC : CtxOk P C) (hr : Rel s a.tmps w S m) {c : Call} {f : Operand} (ho : o.op = .call c) (hb' : c.callee = .value f)
    {d : Nat} (hd : (match o.dst with | some d => d | none => 0) = d) (h1 : d < 99000) (h2 : s.done d = false) (he : evalOp C o s.env s.sto κ = some r) : Ok P s a w S m o κ r := by
  subst hd
  simp only [evalOp, ho, hb'] at he
  have hmk : makes o.op = true := by simp only [ho, makes, hb']
  split at he
  case h_2 => cases he
  rename_i g caps hf
  split at he
  case h_2 => cases he
  rename_i args hargs
  obtain ⟨vs, hvs, hfv⟩ : ∃ vs, RepC w S m caps vs ∧ a.eval f = cloV g vs := by
    rcases opnd_ok hr hf with q | ⟨cs, ⟨vs, q1, q2⟩, q3⟩
    · cases q
    · subst q2; exact ⟨vs, q1, by simpa [Shut, T.isAgg] using q3.symm⟩
  cases hb : Nat.blt g cloB with
  | false =>
    rw [hb, cond_false] at he
    obtain ⟨hch, he⟩ := bif_some he
    rw [cloV_ge hb] at hfv
    obtain ⟨t, ups, k1, k2⟩ := callsK_ok hr h1 h2 (T.app_rep (chainT_ok hr hargs) hch hvs) (hC.sigs (g - cloB)) he
    refine ⟨t, ups, k1, Does.of_upon ?_⟩
    rw [hmk]
    have : execOp a.eval o = callFunc (g - cloB) (vs ++ c.args.toList.map a.eval).toArray := by
      have e2 : (vs ++ c.args.toList.map a.eval).toArray = (vs.toArray ++ c.args.map a.eval) ++ #[] := by
        apply Array.ext'; simp
      rw [e2]
      simp [execOp, ho, resolve, hb', hfv, Deferred.ofValue, invoke]
    rw [this]; exact k2
  | true =>
  rw [hb, cond_true] at he
  rw [cloV_lt hb] at hfv
  obtain ⟨t, ups, k1, k2⟩ := callsK_ok hr h1 h2 (T.app_ok hvs hr hargs) (hC.sigs g) he
  refine ⟨t, ups, k1, Does.of_upon ?_⟩
  rw [hmk]
  have : execOp a.eval o = callFunc g (c.args.toList.map a.eval ++ vs).toArray := by
    have e2 : (c.args.toList.map a.eval ++ vs).toArray = (#[] ++ c.args.map a.eval) ++ vs.toArray := by
      apply Array.ext'; simp
    rw [e2]
    simp [execOp, ho, resolve, hb', hfv, Deferred.ofValue, invoke]
  rw [this]; exact k2
end
end Go.Proofs.D
