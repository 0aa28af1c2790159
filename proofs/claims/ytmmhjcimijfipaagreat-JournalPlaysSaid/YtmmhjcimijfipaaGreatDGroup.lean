/- m[k] = append(m[k], v): a map of slices that a loop fills. -/
import Derived.Test.YtmmhjcimijfipaaGreatDEnt
set_option linter.unusedVariables false
set_option linter.unusedSimpArgs false
namespace Go.Proofs.D
open Go.RowKit

/-! ### States of which some objects are not written out -/
def stoR (O : List (Nat × Obj)) (ρ : Nat → Option Obj) : Nat → Option Obj := fun i => match stoL O i with | some o => some o | none => ρ i
def mkR (E : List (Nat × T)) (O : List (Nat × Obj)) (ρ : Nat → Option Obj) (d : List Nat) : St := { env := envL E, sto := stoR O ρ, done := fun x => elemN x d }
def factR (ke ko : List Nat) (sF : St) : (List T × List (Option Obj) × (Nat → Bool)) × (Nat → Option Obj) := (facts ke ko sF, fun j : Nat => sF.sto (j + 100000))
def toldR (E : List (Nat × T)) (O : List (Nat × Obj)) (ρ : Nat → Option Obj) (d : List Nat) : (List T × List (Option Obj) × (Nat → Bool)) × (Nat → Option Obj) := (told E O d, fun j : Nat => ρ (j + 100000))

section
variable {P : Program} {C C1 : Ctx} {s s' : St} {a a' : Act} {w w' : World} {S S' : Cells} {m m' : Nat → Option MB} {O0 : Cells} {w0 : World} {S0 : Cells} {m0 : Nat → Option MB} {lr : Option Nat} {n : Nat}

theorem told_in {E' : List (Nat × T)} {O' : List (Nat × Obj)} {ρ' : Nat → Option Obj} {d' ke ko : List Nat} (hke : E'.map (·.1) = ke) (hko : O'.map (·.1) = ko) (hρ : ∀ i o, ρ' i = some o → 100000 ≤ i) {tm : Array Value}
    (k1 : some (factR ke ko s') = some (toldR E' O' ρ' d')) (k2 : Rel s' tm w S m) : Rel (mkR E' O' ρ' d') tm w S m ∧ ∀ i o, (mkR E' O' ρ' d').sto i = some o → s'.sto i = some o := by
  simp only [factR, toldR, facts, told, Option.some.injEq, Prod.mk.injEq] at k1
  obtain ⟨⟨g1, g2, g3⟩, g4⟩ := k1
  subst hke; subst hko
  rw [List.map_map] at g1 g2
  have hs0 : ∀ i o, stoL O' i = some o → s'.sto i = some o := stoL_le (map_at (f := s'.sto ∘ fun p : Nat × Obj => p.1) (g := fun p => some p.2) g2)
  have hs : ∀ i o, (mkR E' O' ρ' d').sto i = some o → s'.sto i = some o := fun i o h => by
    have h : stoR O' ρ' i = some o := h
    unfold stoR at h
    cases hq : stoL O' i with
    | some p => rw [hq] at h; cases h; exact hs0 i o hq
    | none =>
      rw [hq] at h
      have hi := hρ i o h
      have := congrFun g4 (i - 100000)
      rw [Nat.sub_add_cancel hi] at this
      exact this.trans h
  exact ⟨k2.weaken (envL_or (map_at (f := s'.env ∘ fun p : Nat × T => p.1) (g := fun p => p.2) g1)) hs (fun x hx => by rw [g3]; exact hx), hs⟩

theorem At.opsS (hC : CtxOk P C1) (hn : C1.n = C.n) {L : List Deferred} {Q : Exit → Act → World → Prop} {ops : Array Oper} {rest : List Nat} {l : List Oper} {k : Nat} (hl : ∀ j x, l[j]? = some x → ops[k + j]? = some x) {E' : List (Nat × T)} {O' : List (Nat × Obj)} {ρ' : Nat → Option Obj} {d' ke ko : List Nat}
    (h : At C 0 O0 w0 S0 m0 s a w S m) (hke : E'.map (·.1) = ke) (hko : O'.map (·.1) = ko) (hρ : ∀ i o, ρ' i = some o → 100000 ≤ i) (he : evalOps C1 ops.toList l s (fun sF => some (factR ke ko sF)) = some (toldR E' O' ρ' d'))
    (hQ : ∀ a' w' S' m', At C 0 O0 w0 S0 m0 (mkR E' O' ρ' d') a' w' S' m' → Keeps w S w' S' → (∀ i u, m i = some u → m' i = some u) → Ext (OwnSt s.sto m) w S m w' S' m' (OwnSt (mkR E' O' ρ' d').sto m') → Same a a' l → wpOpsIn (Fr lr) n P ops Q rest (withD L a') w') :
    wpOpsIn (Fr lr) n P ops Q (List.range' k l.length ++ rest) (withD L a) w := by
  have hT : TmOk C1 a := ⟨h.tm.1.trans hn.symm, h.tm.2⟩
  refine evalOps_in hC rfl l k hl h.rel hT he fun s' a' w' S' m' k1 k2 k3 k4 k5 => ?_
  obtain ⟨hr', hs⟩ := told_in hke hko hρ k1 k2
  have hx : Ext (OwnSt s.sto m) w S m w' S' m' (OwnSt (mkR E' O' ρ' d').sto m') := k4.sub fun b x => OwnSt.weaken hs
  exact hQ a' w' S' m' (h.step hr' ⟨k3.1.trans hn, k3.2⟩ hx) (Keeps.of_ext h.rel.toStoRel hx) hx.maps hx k5

/-- Some objects are forgotten. -/
theorem StoRel.less {σ σ' : Nat → Option Obj} (h : StoRel σ w S m) (hs : ∀ i o, σ' i = some o → σ i = some o) : Step1 σ w S m σ' w S m :=
  ⟨⟨fun i o ho => h.sto i o (hs i o ho), fun i j o p u v hij ho hp hu hv => h.apart i j o p u v hij (hs i o ho) (hs j p hp) hu hv, fun i o u ho hu => h.stab i o u (hs i o ho) hu, h.live⟩,
    Keeps.refl .., (Ext.refl (OwnSt σ m) w S m).sub fun b x => OwnSt.weaken hs⟩

/-- An object gets a new number. -/
theorem StoRel.move {σ : Nat → Option Obj} (h : StoRel σ w S m) {id i1 : Nat} {u : MB} {o : Obj} (hs : σ id = some o) (hu : m id = some u) (h1 : m i1 = none) (hc : o.closed = true) :
    Step1 σ w S m (fun i => bif Nat.beq i id then none else bif Nat.beq i i1 then some o else σ i) w S (putM1 m i1 u) := by
  have hne : id ≠ i1 := fun e => by rw [e, h1] at hu; cases hu
  have hn1 : σ i1 = none := by
    cases hq : σ i1 with
    | none => rfl
    | some p => obtain ⟨v, g1, _⟩ := h.sto i1 p hq; rw [h1] at g1; cases g1
  -- each object of the new ones is one of the old ones
  have old : ∀ i p, (bif Nat.beq i id then none else bif Nat.beq i i1 then some o else σ i) = some p → (i = i1 ∧ p = o) ∨ (i ≠ i1 ∧ i ≠ id ∧ σ i = some p) := fun i p hp => by
    by_cases e : i = id
    · subst e; rw [upd_eq] at hp; cases hp
    rw [upd_ne e] at hp
    by_cases e1 : i = i1
    · subst e1; rw [upd_eq] at hp; cases hp; exact .inl ⟨rfl, rfl⟩
    rw [upd_ne e1] at hp
    exact .inr ⟨e1, e, hp⟩
  have hmi : ∀ i, i ≠ i1 → putM1 m i1 u i = m i := fun i e => by unfold putM1; rw [if_neg e]
  obtain ⟨u', g1, g2⟩ := h.sto id o hs
  rw [hu] at g1; cases g1
  refine ⟨⟨fun i p hp => ?_, fun i j p q v v' hij hp hq hv hv' b x hx hy => ?_, fun i p v hp hv b x hb hx => ?_, h.live⟩, ⟨fun _ _ q => q, fun _ _ _ _ q => q⟩, ⟨rfl, Tape.refl _, rfl, Nat.le_refl _, putM1_old h1, fun _ _ q => q, fun _ _ q => .inl q, fun b x ⟨i, p, v, hp, hv, hx⟩ => ?_, fun _ _ _ _ => ⟨rfl, rfl⟩, fun _ _ _ => rfl⟩⟩
  · rcases old i p hp with ⟨e, e'⟩ | ⟨e1, e2, hp⟩
    · subst e; subst e'; exact ⟨u, putM1_new, g2.closed hc⟩
    · obtain ⟨v, g3, g4⟩ := h.sto i p hp
      exact ⟨v, putM1_old h1 _ _ g3, g4.keep ⟨fun _ _ q => q, fun _ _ _ _ q => q⟩ (putM1_old h1) (fun _ _ _ => ⟨rfl, rfl⟩) fun _ => rfl⟩
  · rcases old i p hp with ⟨e, e'⟩ | ⟨e1, e2, hp'⟩
    · rcases old j q hq with ⟨f, f'⟩ | ⟨f1, f2, hq'⟩
      · exact hij (e.trans f.symm)
      · subst e; subst e'
        rw [putM1_new] at hv; cases hv
        rw [hmi j f1] at hv'
        exact h.apart id j p q u v' (fun z => f2 z.symm) hs hq' hu hv' b x hx hy
    · rcases old j q hq with ⟨f, f'⟩ | ⟨f1, f2, hq'⟩
      · subst f; subst f'
        rw [putM1_new] at hv'; cases hv'
        rw [hmi i e1] at hv
        exact h.apart i id p q v u e2 hp' hs hv hu b x hx hy
      · rw [hmi i e1] at hv; rw [hmi j f1] at hv'
        exact h.apart i j p q v v' hij hp' hq' hv hv' b x hx hy
  · rcases old i p hp with ⟨e, e'⟩ | ⟨e1, e2, hp⟩
    · subst e; subst e'
      rw [putM1_new] at hv; cases hv
      exact h.stab id p u hs hu b x hb hx
    · rw [hmi i e1] at hv
      exact h.stab i p v hp hv b x hb hx
  · rcases old i p hp with ⟨e, e'⟩ | ⟨e1, e2, hp⟩
    · subst e; subst e'
      rw [putM1_new] at hv; cases hv
      exact .inl ⟨id, p, u, hs, hu, hx⟩
    · rw [hmi i e1] at hv
      exact .inl ⟨i, p, v, hp, hv, hx⟩

/-- A slot is written. -/
theorem At.putT (h : At C 0 O0 w0 S0 m0 s a w S m) {d : Nat} {t : T} {v : Value} (hd : d < C.n) (hv : RepV w S m t v) : At C 0 O0 w0 S0 m0 (s.put d t) (a.put (some d) v) w S m := by
  refine ⟨⟨h.rel.toStoRel, fun x => ?_, h.rel.fresh, h.rel.top⟩, h.tm.put _ _, h.ext, h.keep⟩
  show RepV w S m (bif Nat.beq x d then t else s.env x) _
  by_cases e : x = d
  · subst e
    have : x < a.tmps.size := by rw [h.tm.1]; exact hd
    have e2 : (a.put (some x) v).tmps.getD x undef = v := by simp [Act.put, this]
    rw [e2]
    have : Nat.beq x x = true := Nat.beq_refl x
    rw [this]; exact hv
  · have hb : Nat.beq x d = false := by cases hq : Nat.beq x d with
      | false => rfl
      | true => exact absurd (Nat.eq_of_beq_eq_true hq) e
    rw [hb, put_other (by simpa using fun e' => e e'.symm)]
    exact h.rel.env x

/-- Slots are forgotten. -/
theorem At.told (h : At C 0 O0 w0 S0 m0 s a w S m) (he : ∀ t, (s'.env t).isAny = true ∨ s'.env t = s.env t) (hs : s'.sto = s.sto) (hd : s'.done = s.done) : At C 0 O0 w0 S0 m0 s' a w S m := by
  refine ⟨⟨by rw [hs]; exact h.rel.toStoRel, fun t => ?_, by rw [hd]; exact h.rel.fresh, h.rel.top⟩, h.tm, by rw [hs]; exact h.ext, h.keep⟩
  rcases he t with q | q
  · exact .inl q
  · rw [q]; exact h.rel.env t
end
end Go.Proofs.D
