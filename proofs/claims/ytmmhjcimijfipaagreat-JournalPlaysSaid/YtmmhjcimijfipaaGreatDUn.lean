/- Out of slots into typed data: what the skeleton's state says of memory. -/
import Derived.Test.YtmmhjcimijfipaaGreatDApp
set_option linter.unusedVariables false
set_option linter.unusedSimpArgs false
namespace Go.Proofs.D
open Go.RowKit

/-- The place of a variable's part. -/
def subM (u : MB) (p : List Step) : MB := match p with
  | [] => u
  | q :: r => ⟨.pointer (some ⟨u.b, u.o + offK u.code (q :: r), none⟩), u.b, u.o + offK u.code (q :: r), (codeAt u.code (q :: r)).getD u.code⟩

def bindM (ρ : Binds) (m : Nat → Option MB) (k : Nat) : Option MB := match ρ.find k with | some (id, p) => (m id).map (subM · p) | none => none

theorem subM_b (u : MB) (p : List Step) : (subM u p).b = u.b := by cases p <;> rfl
theorem subM_o (u : MB) (p : List Step) : (subM u p).o = u.o + offK u.code p := by
  cases p with
  | nil => show u.o = u.o + offK u.code []; cases u.code <;> simp [offK]
  | cons q r => rfl
theorem offK_nil (c : K) : offK c [] = 0 := by cases c <;> rfl

/-- One list of numbers says all that another says. -/
def Binds.le (ρ ρ' : Binds) : Prop := ∀ k b, ρ.find k = some b → ρ'.find k = some b
theorem Binds.le_refl (ρ : Binds) : ρ.le ρ := fun _ _ h => h
theorem Binds.le_trans {a b c : Binds} (h : a.le b) (k : b.le c) : a.le c := fun i x hx => k i x (h i x hx)

theorem find_cons {k j id : Nat} {p : List Step} {ρ : Binds} : Binds.find ((k, id, p) :: ρ) j = (bif Nat.beq k j then some (id, p) else ρ.find j) := rfl
theorem le_cons {ρ : Binds} {k id : Nat} {p : List Step} (h : ρ.find k = none) : ρ.le ((k, id, p) :: ρ) := fun j b hb => by
  rw [find_cons]
  cases hkj : Nat.beq k j with
  | true => have := Nat.eq_of_beq_eq_true hkj; subst this; rw [h] at hb; cases hb
  | false => exact hb
theorem find_self {ρ : Binds} {k id : Nat} {p : List Step} : Binds.find ((k, id, p) :: ρ) k = some (id, p) := by rw [find_cons]; simp

theorem bind_ok {ρ ρ' : Binds} {k id : Nat} {p : List Step} (h : ρ.bind k id p = some ρ') : ρ.le ρ' ∧ ρ'.find k = some (id, p) := by
  unfold Binds.bind at h
  split at h
  · rename_i hf
    cases h
    exact ⟨le_cons hf, find_self⟩
  · rename_i id' p' hf
    obtain ⟨h1, h2⟩ := bif_some h
    cases h2
    simp only [Bool.and_eq_true, List.isEmpty_iff] at h1
    obtain ⟨⟨h1, h3⟩, h4⟩ := h1
    have := Nat.eq_of_beq_eq_true h1
    subst this; subst h3; subst h4
    exact ⟨Binds.le_refl _, hf⟩

section
variable {w w' : World} {S S' : Cells} {m m' : Nat → Option MB} {σ σ0 : Nat → Option Obj}

/-- What was there is there still, but for what is shared. -/
def More (σ σ' : Nat → Option Obj) : Prop := ∀ i o, σ i = some o → match o with | .row e sh l => ∃ sh', σ' i = some (.row e sh' l) ∧ (sh = true → sh' = true) | o => σ' i = some o
theorem More.refl (σ : Nat → Option Obj) : More σ σ := fun i o h => by
  cases o with
  | row e sh l => exact ⟨sh, h, fun q => q⟩
  | _ => exact h
theorem More.trans {σ σ1 σ2 : Nat → Option Obj} (h : More σ σ1) (k : More σ1 σ2) : More σ σ2 := fun i o ho => by
  have h1 := h i o ho
  cases o with
  | row e sh l =>
    obtain ⟨sh', h1, h2⟩ := h1
    obtain ⟨sh2, h3, h4⟩ := k i _ h1
    exact ⟨sh2, h3, fun q => h4 (h2 q)⟩
  | cell c fz t => exact k i _ h1
  | map kc vc es => exact k i _ h1
theorem More.flag (h : More σ σ0) : Flag σ σ0 := fun i e sh l hi => let ⟨q, h1, _⟩ := h i _ hi; ⟨q, h1⟩

theorem freeze_more : ∀ {c : K} {t : T} {x : El c} {u : Ups}, freeze σ c t = some (x, u) → ∀ σ1, More σ σ1 → More σ1 (upds u σ1)
  | c, .val c' y, x, u, he, σ1, h1 => by
    have he' : (castE c' c y).map (fun y => (y, ([] : Ups))) = some (x, u) := by cases c <;> first | exact he | (rename_i n e; cases n <;> exact he)
    obtain ⟨z, hz, e⟩ := Option.map_eq_some_iff.1 he'
    cases e; exact More.refl _
  | .slice e, .nils e', x, u, he, σ1, h1 => by
    simp only [freeze, Option.some.injEq, Prod.mk.injEq] at he
    obtain ⟨_, e2⟩ := he; subst e2; exact More.refl _
  | .slice e, .row id, x, u, he, σ1, h1 => by
    simp only [freeze] at he
    split at he
    case h_2 => cases he
    rename_i e' sh l hs
    obtain ⟨z, hz, e1⟩ := Option.map_eq_some_iff.1 he
    cases e1
    obtain ⟨sh', h2, _⟩ := h1 _ _ hs
    intro i o ho
    by_cases hi : i = id
    · subst hi
      rw [h2] at ho; cases ho
      exact ⟨true, upd_eq, fun _ => rfl⟩
    · have e3 : upds [(id, some (Obj.row e' true l))] σ1 i = σ1 i := upd_ne hi
      have := More.refl σ1 i o ho
      cases o with
      | row e sh l => obtain ⟨q, h3, h4⟩ := this; exact ⟨q, by rw [e3]; exact h3, h4⟩
      | cell c fz t => show upds _ σ1 i = _; rw [e3]; exact ho
      | map kc vc es => show upds _ σ1 i = _; rw [e3]; exact ho
  | .unit, .unit, x, u, he, σ1, h1 => by
    simp only [freeze, Option.some.injEq, Prod.mk.injEq] at he
    obtain ⟨_, e2⟩ := he; subst e2; exact More.refl _
  | .cons ka kb, .pair y z, x, u, he, σ1, h1 => by
    simp only [freeze] at he
    obtain ⟨⟨v1, u1⟩, e1, he⟩ := Option.bind_eq_some_iff.1 he
    obtain ⟨⟨v2, u2⟩, e2, he⟩ := Option.map_eq_some_iff.1 he
    cases he
    have k1 := freeze_more e1 σ1 h1
    rw [upds_append]
    exact k1.trans (freeze_more e2 _ (h1.trans k1))
  | .arr 0 e, .unit, x, u, he, σ1, h1 => by
    simp only [freeze, Option.some.injEq, Prod.mk.injEq] at he
    obtain ⟨_, e2⟩ := he; subst e2; exact More.refl _
  | .arr (n + 1) e, .pair y z, x, u, he, σ1, h1 => by
    simp only [freeze] at he
    obtain ⟨⟨v1, u1⟩, e1, he⟩ := Option.bind_eq_some_iff.1 he
    obtain ⟨⟨v2, u2⟩, e2, he⟩ := Option.map_eq_some_iff.1 he
    cases he
    have k1 := freeze_more e1 σ1 h1
    rw [upds_append]
    exact k1.trans (freeze_more e2 _ (h1.trans k1))

theorem freeze_none : ∀ {c : K} {t : T} {x : El c} {u : Ups}, freeze σ c t = some (x, u) → ∀ (τ : Nat → Option Obj) {i : Nat}, σ i = none → upds u τ i = τ i
  | c, .val c' y, x, u, he, τ, i, hi => by
    have he' : (castE c' c y).map (fun y => (y, ([] : Ups))) = some (x, u) := by cases c <;> first | exact he | (rename_i n e; cases n <;> exact he)
    obtain ⟨z, hz, e⟩ := Option.map_eq_some_iff.1 he'
    cases e; rfl
  | .slice e, .nils e', x, u, he, τ, i, hi => by
    simp only [freeze, Option.some.injEq, Prod.mk.injEq] at he
    obtain ⟨_, e2⟩ := he; subst e2; rfl
  | .slice e, .row id, x, u, he, τ, i, hi => by
    simp only [freeze] at he
    split at he
    case h_2 => cases he
    rename_i e' sh l hs
    obtain ⟨z, hz, e1⟩ := Option.map_eq_some_iff.1 he
    cases e1
    exact upd_ne fun q => by subst q; rw [hs] at hi; cases hi
  | .unit, .unit, x, u, he, τ, i, hi => by
    simp only [freeze, Option.some.injEq, Prod.mk.injEq] at he
    obtain ⟨_, e2⟩ := he; subst e2; rfl
  | .cons ka kb, .pair y z, x, u, he, τ, i, hi => by
    simp only [freeze] at he
    obtain ⟨⟨v1, u1⟩, e1, he⟩ := Option.bind_eq_some_iff.1 he
    obtain ⟨⟨v2, u2⟩, e2, he⟩ := Option.map_eq_some_iff.1 he
    cases he
    rw [upds_append, freeze_none e2 _ hi, freeze_none e1 _ hi]
  | .arr 0 e, .unit, x, u, he, τ, i, hi => by
    simp only [freeze, Option.some.injEq, Prod.mk.injEq] at he
    obtain ⟨_, e2⟩ := he; subst e2; rfl
  | .arr (n + 1) e, .pair y z, x, u, he, τ, i, hi => by
    simp only [freeze] at he
    obtain ⟨⟨v1, u1⟩, e1, he⟩ := Option.bind_eq_some_iff.1 he
    obtain ⟨⟨v2, u2⟩, e2, he⟩ := Option.map_eq_some_iff.1 he
    cases he
    rw [upds_append, freeze_none e2 _ hi, freeze_none e1 _ hi]

theorem freeze_dom : ∀ {c : K} {t : T} {x : El c} {u : Ups}, freeze σ c t = some (x, u) → ∀ i o, (i, o) ∈ u → ∃ p, σ i = some p
  | c, .val c' y, x, u, he, i, o, hi => by
    have he' : (castE c' c y).map (fun y => (y, ([] : Ups))) = some (x, u) := by cases c <;> first | exact he | (rename_i n e; cases n <;> exact he)
    obtain ⟨z, hz, e⟩ := Option.map_eq_some_iff.1 he'
    cases e; cases hi
  | .slice e, .nils e', x, u, he, i, o, hi => by
    simp only [freeze, Option.some.injEq, Prod.mk.injEq] at he
    obtain ⟨_, e2⟩ := he; subst e2; cases hi
  | .slice e, .row id, x, u, he, i, o, hi => by
    simp only [freeze] at he
    split at he
    case h_2 => cases he
    rename_i e' sh l hs
    obtain ⟨z, hz, e1⟩ := Option.map_eq_some_iff.1 he
    cases e1
    simp only [List.mem_singleton, Prod.mk.injEq] at hi
    rw [hi.1]; exact ⟨_, hs⟩
  | .unit, .unit, x, u, he, i, o, hi => by
    simp only [freeze, Option.some.injEq, Prod.mk.injEq] at he
    obtain ⟨_, e2⟩ := he; subst e2; cases hi
  | .cons ka kb, .pair y z, x, u, he, i, o, hi => by
    simp only [freeze] at he
    obtain ⟨⟨v1, u1⟩, e1, he⟩ := Option.bind_eq_some_iff.1 he
    obtain ⟨⟨v2, u2⟩, e2, he⟩ := Option.map_eq_some_iff.1 he
    cases he
    rcases List.mem_append.1 hi with q | q
    · exact freeze_dom e1 i o q
    · exact freeze_dom e2 i o q
  | .arr 0 e, .unit, x, u, he, i, o, hi => by
    simp only [freeze, Option.some.injEq, Prod.mk.injEq] at he
    obtain ⟨_, e2⟩ := he; subst e2; cases hi
  | .arr (n + 1) e, .pair y z, x, u, he, i, o, hi => by
    simp only [freeze] at he
    obtain ⟨⟨v1, u1⟩, e1, he⟩ := Option.bind_eq_some_iff.1 he
    obtain ⟨⟨v2, u2⟩, e2, he⟩ := Option.map_eq_some_iff.1 he
    cases he
    rcases List.mem_append.1 hi with q | q
    · exact freeze_dom e1 i o q
    · exact freeze_dom e2 i o q

theorem upds_noneU : ∀ {u : Ups} {τ : Sto} {i : Nat}, (∀ o, (i, o) ∉ u) → upds u τ i = τ i
  | [], _, _, _ => rfl
  | (k, o) :: r, τ, i, h => by
    simp only [upds]
    rw [upds_noneU fun o' q => h o' (List.mem_cons_of_mem _ q)]
    exact upd_ne fun e => by subst e; exact h o List.mem_cons_self

/-- Later in the reading. -/
structure Later (nb : Nat) (σ : Nat → Option Obj) (w : World) (S : Cells) (m : Nat → Option MB) (u : Binds × Ups) (S1 : Cells) (m1 : Nat → Option MB) : Prop where
  step : Step1 σ w S m (upds u.2 σ) w S1 m1
  more : More σ (upds u.2 σ)
  ids : ∀ i v, m1 i = some v → m i = some v ∨ ∃ k, k < 500 ∧ i = nb + k ∧ u.1.find k = some (nb + k, [])
  dom : ∀ i o, (i, o) ∈ u.2 → (∃ p, σ i = some p) ∨ ∃ k, k < 500 ∧ i = nb + k
  nils : ∀ i o, σ i = none → upds u.2 σ i = some o → ∃ e sh, o = .row e sh [] ∧ m1 i = some ⟨.slice none 0 0, 0, 0, .arr 0 e⟩
  bnd : nb < 100000000 → ∀ k id p, u.1.find k = some (id, p) → ∃ v, m1 id = some v

/-- A further step of the reading. -/
structure Further (nb : Nat) (σ : Nat → Option Obj) (w : World) (S : Cells) (m : Nat → Option MB) (u : Binds × Ups) (S1 : Cells) (m1 : Nat → Option MB) (u' : Binds × Ups) (S2 : Cells) (m2 : Nat → Option MB) : Prop where
  later : Later nb σ w S m u' S2 m2
  le : u.1.le u'.1
  keeps : Keeps w S1 w S2
  maps : ∀ i v, m1 i = some v → m2 i = some v
  more : More (upds u.2 σ) (upds u'.2 σ)

theorem Further.refl {nb : Nat} {u : Binds × Ups} {S1 : Cells} {m1 : Nat → Option MB} (h : Later nb σ w S m u S1 m1) : Further nb σ w S m u S1 m1 u S1 m1 :=
  ⟨h, Binds.le_refl _, Keeps.refl .., fun _ _ h => h, More.refl _⟩
theorem Further.trans {nb : Nat} {u u1 u2 : Binds × Ups} {S0 S1 S2 : Cells} {m0 m1 m2 : Nat → Option MB} (h : Further nb σ w S m u S0 m0 u1 S1 m1) (k : Further nb σ w S m u1 S1 m1 u2 S2 m2) : Further nb σ w S m u S0 m0 u2 S2 m2 :=
  ⟨k.later, Binds.le_trans h.le k.le, h.keeps.trans k.keeps, fun i v q => k.maps i v (h.maps i v q), h.more.trans k.more⟩

theorem bind_bnd {ρ ρ' : Binds} {k id : Nat} {p : List Step} {m1 : Nat → Option MB} (hb : ρ.bind k id p = some ρ') {v0 : MB} (hv0 : m1 id = some v0) (h : ∀ k id p, ρ.find k = some (id, p) → ∃ v, m1 id = some v) :
    ∀ k' id' p', ρ'.find k' = some (id', p') → ∃ v, m1 id' = some v := by
  intro k' id' p' hf
  unfold Binds.bind at hb
  split at hb
  · cases hb
    rw [find_cons] at hf
    cases hkj : Nat.beq k k' with
    | true => rw [hkj] at hf; cases hf; exact ⟨v0, hv0⟩
    | false => rw [hkj] at hf; exact h _ _ _ hf
  · obtain ⟨_, h2⟩ := bif_some hb
    cases h2; exact h _ _ _ hf

theorem Further.bind {nb : Nat} {ρ ρ' : Binds} {ups : Ups} {S1 : Cells} {m1 : Nat → Option MB} {k id : Nat} {p : List Step} (h : Later nb σ w S m (ρ, ups) S1 m1) (hb : ρ.bind k id p = some ρ') {v0 : MB} (hv0 : m1 id = some v0) : Further nb σ w S m (ρ, ups) S1 m1 (ρ', ups) S1 m1 :=
  ⟨⟨h.step, h.more, fun i v q => (h.ids i v q).imp (fun q => q) fun ⟨k, h1, h2, h3⟩ => ⟨k, h1, h2, (bind_ok hb).1 _ _ h3⟩, h.dom, h.nils, fun hn k' id' p' hf => bind_bnd hb hv0 (h.bnd hn) k' id' p' hf⟩, (bind_ok hb).1, Keeps.refl .., fun _ _ q => q, More.refl _⟩

theorem Further.freeze {nb : Nat} {ρ : Binds} {ups v : Ups} {S1 : Cells} {m1 : Nat → Option MB} {c : K} {t : T} {y : El c} {cs : List Value} (h : Later nb σ w S m (ρ, ups) S1 m1) (he : freeze σ c t = some (y, v)) (hr : RepC w S1 m1 t cs) :
    ∃ S2, Further nb σ w S m (ρ, ups) S1 m1 (ρ, ups ++ v) S2 m1 ∧ Rep w S2 c y cs := by
  obtain ⟨S2, k1, k2, k3⟩ := freeze_ok h.step.rel h.more.flag he hr
  have km := freeze_more he _ h.more
  refine ⟨S2, ⟨⟨?_, ?_, h.ids, fun i o q => (List.mem_append.1 q).elim (h.dom i o) (fun q => .inl (freeze_dom he i o q)), fun i o h1 h2 => h.nils i o h1 (by rw [← freeze_none he (upds ups σ) h1, ← upds_append]; exact h2), h.bnd⟩, Binds.le_refl _, k1.keeps, fun _ _ q => q, ?_⟩, k2⟩
  · show Step1 σ w S m (upds (ups ++ v) σ) w S2 m1
    rw [upds_append]; exact h.step.trans k1
  · show More σ (upds (ups ++ v) σ)
    rw [upds_append]; exact h.more.trans km
  · show More (upds ups σ) (upds (ups ++ v) σ)
    rw [upds_append]; exact km

theorem Further.nil {nb : Nat} {ρ : Binds} {ups : Ups} {S1 : Cells} {m1 : Nat → Option MB} {k : Nat} {e : K} (h0 : StoRel σ w S m) (hnb : ∀ k, k < 500 → m (nb + k) = none) (h : Later nb σ w S m (ρ, ups) S1 m1) (hf : ρ.find k = none) (hk : k < 500) :
    Further nb σ w S m (ρ, ups) S1 m1 ((k, nb + k, []) :: ρ, ups ++ [(nb + k, some (.row e false []))]) S1 (putM1 m1 (nb + k) ⟨.slice none 0 0, 0, 0, .arr 0 e⟩) := by
  have hid : m1 (nb + k) = none := by
    cases hq : m1 (nb + k) with
    | none => rfl
    | some v =>
      rcases h.ids _ _ hq with h1 | ⟨k', _, h2, h3⟩
      · rw [hnb k hk] at h1; cases h1
      · have : k' = k := by omega
        subst this
        rw [show (ρ, ups).1 = ρ from rfl, hf] at h3; cases h3
  have st := h.step.rel.newNil hid e false
  have hnone : upds ups σ (nb + k) = none := by
    cases hq : upds ups σ (nb + k) with
    | none => rfl
    | some o => obtain ⟨u, h1, _⟩ := h.step.rel.sto _ _ hq; rw [hid] at h1; cases h1
  have km : More (upds ups σ) (upds (ups ++ [(nb + k, some (.row e false []))]) σ) := by
    rw [upds_append]
    intro i o ho
    have hi : i ≠ nb + k := fun q => by rw [q, hnone] at ho; cases ho
    have e3 : upds [(nb + k, some (Obj.row e false []))] (upds ups σ) i = upds ups σ i := upd_ne hi
    cases o with
    | row e sh l => exact ⟨sh, by rw [e3]; exact ho, fun q => q⟩
    | cell c fz t => show upds _ _ i = _; rw [e3]; exact ho
    | map kc vc es => show upds _ _ i = _; rw [e3]; exact ho
  refine ⟨⟨?_, h.more.trans km, fun i v q => ?_, (fun i o q => (List.mem_append.1 q).elim (h.dom i o) (fun q => by simp only [List.mem_singleton, Prod.mk.injEq] at q; exact .inr ⟨k, hk, q.1⟩)), fun i o h1 h2 => ?_, fun hn k' id' p' hf' => ?_⟩, le_cons hf, Keeps.refl .., putM1_old hid, km⟩
  case refine_4 =>
    have hf' : Binds.find ((k, nb + k, []) :: ρ) k' = some (id', p') := hf'
    rw [find_cons] at hf'
    cases hkj : Nat.beq k k' with
    | true => rw [hkj] at hf'; cases hf'; exact ⟨_, putM1_new⟩
    | false => rw [hkj] at hf'; obtain ⟨v, hv⟩ := h.bnd hn _ _ _ hf'; exact ⟨v, putM1_old hid _ _ hv⟩
  · show Step1 σ w S m (upds (ups ++ [_]) σ) w S1 _
    rw [upds_append]; exact h.step.trans st
  · rcases putM1_inv q with q | q
    · rcases h.ids i v q with h1 | ⟨k', h1, h2, h3⟩
      · exact .inl h1
      · exact .inr ⟨k', h1, h2, le_cons hf _ _ h3⟩
    · subst q; exact .inr ⟨k, hk, rfl, find_self⟩
  · by_cases hi : i = nb + k
    · subst hi
      have h2 : upds (ups ++ [(nb + k, some (Obj.row e false []))]) σ (nb + k) = some o := h2
      rw [upds_append] at h2
      have : some (Obj.row e false []) = some o := by rw [← h2]; exact upd_eq.symm
      cases this
      exact ⟨e, false, rfl, putM1_new⟩
    · have h2 : upds (ups ++ [(nb + k, some (Obj.row e false []))]) σ i = some o := h2
      rw [upds_append] at h2
      have h2 : upds ups σ i = some o := by rw [← h2]; exact (upd_ne hi).symm
      obtain ⟨e', sh', q1, q2⟩ := h.nils i o h1 h2
      exact ⟨e', sh', q1, putM1_old hid _ _ q2⟩

theorem freeze_agg : ∀ {c : K} {t : T} {x : El c} {u : Ups}, freeze σ c t = some (x, u) → t.isAgg = c.isAgg ∧ t.isAny = false
  | c, .val c' y, x, u, he => by
    have he' : (castE c' c y).map (fun y => (y, ([] : Ups))) = some (x, u) := by cases c <;> first | exact he | (rename_i n e; cases n <;> exact he)
    obtain ⟨z, hz, e⟩ := Option.map_eq_some_iff.1 he'
    obtain ⟨e2, _⟩ := castE_some hz
    subst e2; exact ⟨rfl, rfl⟩
  | .slice e, .nils e', x, u, he => ⟨rfl, rfl⟩
  | .slice e, .row id, x, u, he => ⟨rfl, rfl⟩
  | .unit, .unit, x, u, he => ⟨rfl, rfl⟩
  | .cons ka kb, .pair y z, x, u, he => ⟨rfl, rfl⟩
  | .arr 0 e, .unit, x, u, he => ⟨rfl, rfl⟩
  | .arr (n + 1) e, .pair y z, x, u, he => ⟨rfl, rfl⟩

/-- What is read of a slot, in its cells, whatever comes later. -/
def Told (w : World) (u : Binds × Ups) (S : Cells) (m : Nat → Option MB) (t : T) (cs : List Value) : Prop :=
  ∀ (ρ : Binds) (S' : Cells) (m' : Nat → Option MB), u.1.le ρ → Keeps w S w S' → (∀ i v, m i = some v → m' i = some v) → RepC w S' (bindM ρ m') t cs

theorem Told.later {nb : Nat} {u u' : Binds × Ups} {S1 S2 : Cells} {m1 m2 : Nat → Option MB} {t : T} {cs : List Value} (h : Told w u S1 m1 t cs) (k : Further nb σ w S m u S1 m1 u' S2 m2) : Told w u' S2 m2 t cs :=
  fun ρ S' m' h1 h2 h3 => h ρ S' m' (Binds.le_trans k.le h1) (k.keeps.trans h2) fun i v q => h3 i v (k.maps i v q)

theorem unT_ok {nb : Nat} (h0 : StoRel σ w S m) (hnb : ∀ k, k < 500 → m (nb + k) = none) : ∀ {sk : Sk} {t : T} {u u' : Binds × Ups} {x : SkEl sk} {S1 : Cells} {m1 : Nat → Option MB} {cs : List Value},
    Later nb σ w S m u S1 m1 → RepC w S1 m1 t cs → unT σ nb sk t u = some (x, u') → (∃ S2 m2, Further nb σ w S m u S1 m1 u' S2 m2 ∧ Told w u' S2 m2 (fill sk x) cs) ∧ t.isAgg = (fill sk x).isAgg ∧ t.isAny = false := by
  intro sk
  induction sk with
  | val c =>
    rintro t ⟨ρ, ups⟩ u' x S1 m1 cs h hr he
    have he' : (freeze σ c t).map (fun v => (v.1, ρ, ups ++ v.2)) = some (x, u') := by cases t <;> exact he
    obtain ⟨⟨y, v⟩, hf, e⟩ := Option.map_eq_some_iff.1 he'
    cases e
    obtain ⟨S2, k1, k2⟩ := Further.freeze h hf hr
    exact ⟨⟨S2, m1, k1, fun ρ' S' m' _ hk _ => Rep.keep hk k2⟩, freeze_agg hf⟩
  | nils e =>
    rintro t u u' x S1 m1 cs h hr he
    cases t <;> first | (simp [unT] at he; done) | skip
    simp only [unT] at he
    obtain ⟨h1, h2⟩ := bif_some he
    cases h2
    exact ⟨⟨S1, m1, Further.refl h, fun _ _ _ _ _ _ => hr⟩, rfl, rfl⟩
  | nilr r =>
    rintro t u u' x S1 m1 cs h hr he
    cases t <;> first | (simp [unT] at he; done) | skip
    simp only [unT] at he
    obtain ⟨h1, h2⟩ := bif_some he
    cases h2
    have := Nat.eq_of_beq_eq_true h1
    subst this
    exact ⟨⟨S1, m1, Further.refl h, fun _ _ _ _ _ _ => hr⟩, rfl, rfl⟩
  | row k =>
    rintro t ⟨ρ, ups⟩ u' x S1 m1 cs h hr he
    cases t <;> first | (simp [unT] at he; done) | skip
    · rename_i e
      simp only [unT] at he
      split at he
      case h_2 => cases he
      rename_i hf
      obtain ⟨hk, h2⟩ := bif_some he
      cases h2
      have hk' : k < 500 := by simpa [Nat.blt_eq] using hk
      have f := Further.nil (e := e) h0 hnb h hf hk'
      refine ⟨⟨_, _, f, fun ρ' S' m' hle _ hm => ?_⟩, rfl, rfl⟩
      simp only [RepC] at hr; subst hr
      have h3 := hle _ _ (find_self (ρ := ρ) (k := k) (id := nb + k) (p := []))
      have h4 := hm _ _ (putM1_new (m := m1) (id := nb + k) (u := ⟨.slice none 0 0, 0, 0, .arr 0 e⟩))
      exact ⟨⟨.slice none 0 0, 0, 0, .arr 0 e⟩, by simp [bindM, h3, h4, subM], rfl, none, 0, 0, rfl⟩
    · rename_i id
      simp only [unT] at he
      obtain ⟨ρ2, hb, e⟩ := Option.map_eq_some_iff.1 he
      cases e
      obtain ⟨v, h1, h2, h3⟩ := hr
      refine ⟨⟨_, _, Further.bind h hb h1, fun ρ' S' m' hle hk hm => ?_⟩, rfl, rfl⟩
      have h4 := hle _ _ (bind_ok hb).2
      have h5 := hm _ _ h1
      exact ⟨v, by simp [bindM, h4, h5, subM], h2, h3⟩
  | ptr k =>
    rintro t ⟨ρ, ups⟩ u' x S1 m1 cs h hr he
    cases t <;> first | (simp [unT] at he; done) | skip
    rename_i id p
    simp only [unT] at he
    obtain ⟨ρ2, hb, e⟩ := Option.map_eq_some_iff.1 he
    cases e
    obtain ⟨v, h1, h2⟩ := hr
    refine ⟨⟨_, _, Further.bind h hb h1, fun ρ' S' m' hle hk hm => ?_⟩, rfl, rfl⟩
    have h4 := hle _ _ (bind_ok hb).2
    have h5 := hm _ _ h1
    exact ⟨subM v p, by simp [bindM, h4, h5], by rw [h2, subM_b, subM_o, offK_nil]; rfl⟩
  | mapr k =>
    rintro t ⟨ρ, ups⟩ u' x S1 m1 cs h hr he
    cases t <;> first | (simp [unT] at he; done) | skip
    rename_i id
    simp only [unT] at he
    obtain ⟨ρ2, hb, e⟩ := Option.map_eq_some_iff.1 he
    cases e
    obtain ⟨v, h1, h2, h3⟩ := hr
    refine ⟨⟨_, _, Further.bind h hb h1, fun ρ' S' m' hle hk hm => ?_⟩, rfl, rfl⟩
    have h4 := hle _ _ (bind_ok hb).2
    have h5 := hm _ _ h1
    exact ⟨v, by simp [bindM, h4, h5, subM], h2, h3⟩
  | clo f sk ih =>
    rintro t u u' x S1 m1 cs h hr he
    cases t <;> first | (simp [unT] at he; done) | skip
    simp only [unT] at he
    obtain ⟨h1, h2⟩ := bif_some he
    have := Nat.eq_of_beq_eq_true h1
    subst this
    obtain ⟨vs, h3, h4⟩ := hr
    obtain ⟨⟨S2, m2, k1, k2⟩, _⟩ := ih h h3 h2
    exact ⟨⟨S2, m2, k1, fun ρ' S' m' a b c => ⟨vs, k2 ρ' S' m' a b c, h4⟩⟩, rfl, rfl⟩
  | unit =>
    rintro t u u' x S1 m1 cs h hr he
    cases t <;> first | (simp [unT] at he; done) | skip
    · rename_i c y
      cases c <;> first | (simp [unT] at he; done) | skip
      simp only [unT, Option.some.injEq, Prod.mk.injEq] at he
      obtain ⟨_, e⟩ := he
      subst e
      exact ⟨⟨S1, m1, Further.refl h, fun _ _ _ _ _ _ => hr⟩, rfl, rfl⟩
    · simp only [unT, Option.some.injEq, Prod.mk.injEq] at he
      obtain ⟨_, e⟩ := he
      subst e
      exact ⟨⟨S1, m1, Further.refl h, fun _ _ _ _ _ _ => hr⟩, rfl, rfl⟩
  | pair a b iha ihb =>
    rintro t u u' x S1 m1 cs h hr he
    cases t <;> first | (simp [unT] at he; done) | skip
    · rename_i c y
      cases c <;> first | (simp [unT] at he; done) | skip
      simp only [unT] at he
      obtain ⟨⟨v1, u1⟩, e1, he⟩ := Option.bind_eq_some_iff.1 he
      obtain ⟨⟨v2, u2⟩, e2, he⟩ := Option.map_eq_some_iff.1 he
      cases he
      obtain ⟨c1, c2, ec, h1, h2⟩ := hr
      obtain ⟨⟨S2, m2, k1, k2⟩, _⟩ := iha h (show RepC w S1 m1 (.val _ y.1) c1 from h1) e1
      obtain ⟨⟨S3, m3, k3, k4⟩, _⟩ := ihb k1.later (RepC.keep k1.keeps k1.maps (show RepC w S1 m1 (.val _ y.2) c2 from h2)) e2
      exact ⟨⟨S3, m3, k1.trans k3, fun ρ' S' m' a b c => ⟨c1, c2, ec, k2.later k3 ρ' S' m' a b c, k4 ρ' S' m' a b c⟩⟩, rfl, rfl⟩
    · rename_i y z
      simp only [unT] at he
      obtain ⟨⟨v1, u1⟩, e1, he⟩ := Option.bind_eq_some_iff.1 he
      obtain ⟨⟨v2, u2⟩, e2, he⟩ := Option.map_eq_some_iff.1 he
      cases he
      obtain ⟨c1, c2, ec, h1, h2⟩ := hr
      obtain ⟨⟨S2, m2, k1, k2⟩, _⟩ := iha h h1 e1
      obtain ⟨⟨S3, m3, k3, k4⟩, _⟩ := ihb k1.later (h2.keep k1.keeps k1.maps) e2
      exact ⟨⟨S3, m3, k1.trans k3, fun ρ' S' m' a b c => ⟨c1, c2, ec, k2.later k3 ρ' S' m' a b c, k4 ρ' S' m' a b c⟩⟩, rfl, rfl⟩
  | tn =>
    rintro t u u' x S1 m1 cs h hr he
    cases t <;> first | (simp [unT] at he; done) | skip
    simp only [unT, Option.some.injEq, Prod.mk.injEq] at he
    obtain ⟨_, e⟩ := he
    subst e
    exact ⟨⟨S1, m1, Further.refl h, fun _ _ _ _ _ _ => hr⟩, rfl, rfl⟩
  | tc a b iha ihb =>
    rintro t u u' x S1 m1 cs h hr he
    cases t <;> first | (simp [unT] at he; done) | skip
    rename_i y z
    simp only [unT] at he
    obtain ⟨⟨v1, u1⟩, e1, he1⟩ := Option.bind_eq_some_iff.1 he
    obtain ⟨⟨v2, u2⟩, e2, he2⟩ := Option.map_eq_some_iff.1 he1
    clear he he1
    cases he2
    obtain ⟨v, rs, ec, h1, h2⟩ := hr
    rcases h1 with h1 | ⟨c1, h1, hs⟩
    · exfalso
      cases y <;> first | cases h1 | skip
      cases a <;> simp [unT] at e1
      rename_i c
      cases c <;> first | simp [freeze] at e1 | (rename_i n e; cases n <;> simp [freeze] at e1)
    · obtain ⟨⟨S2, m2, k1, k2⟩, ha, _⟩ := iha h h1 e1
      obtain ⟨⟨S3, m3, k3, k4⟩, _⟩ := ihb k1.later (h2.keep k1.keeps k1.maps) e2
      rw [ha] at hs
      exact ⟨⟨S3, m3, k1.trans k3, fun ρ' S' m' a b c => ⟨v, rs, ec, .inr ⟨c1, k2.later k3 ρ' S' m' a b c, hs⟩, k4 ρ' S' m' a b c⟩⟩, rfl, rfl⟩
  | tup l ih =>
    rintro t u u' x S1 m1 cs h hr he
    cases t <;> first | (simp [unT] at he; done) | skip
    simp only [unT] at he
    obtain ⟨vs, h3, h4⟩ := hr
    obtain ⟨⟨S2, m2, k1, k2⟩, _⟩ := ih h h3 he
    exact ⟨⟨S2, m2, k1, fun ρ' S' m' a b c => ⟨vs, k2 ρ' S' m' a b c, h4⟩⟩, rfl, rfl⟩

/-- What is read of an object, whatever comes later. -/
def ToldO (σ : Nat → Option Obj) (w : World) (u : Binds × Ups) (S : Cells) (m : Nat → Option MB) (k : Nat) (ob : Option Obj) : Prop :=
  ∀ (ρ : Binds) (S' : Cells) (m' : Nat → Option MB) (σ' : Nat → Option Obj), u.1.le ρ → Keeps w S w S' → (∀ i v, m i = some v → m' i = some v) → More (upds u.2 σ) σ' → StoRel σ' w S' m' →
    ∀ o, ob = some o → (∀ e sh l, o = .row e sh l → ∀ id p, ρ.find k = some (id, p) → ∀ e' sh' l', σ' id = some (.row e' sh' l') → sh = sh') →
      ∃ id p v o', ρ.find k = some (id, p) ∧ m' id = some v ∧ σ' id = some o' ∧ ObjOk w S' (bindM ρ m') (subM v p) o ∧ ∀ b y, Own (subM v p) o b y → Own v o' b y

theorem ToldO.later {nb : Nat} {u u' : Binds × Ups} {S1 S2 : Cells} {m1 m2 : Nat → Option MB} {i : Nat} {ob : Option Obj} (h : ToldO σ w u S1 m1 i ob) (k : Further nb σ w S m u S1 m1 u' S2 m2) : ToldO σ w u' S2 m2 i ob :=
  fun ρ S' m' σ' h1 h2 h3 h4 => h ρ S' m' σ' (Binds.le_trans k.le h1) (k.keeps.trans h2) (fun i v q => h3 i v (k.maps i v q)) (k.more.trans h4)

theorem unO_ok {nb : Nat} (h0 : StoRel σ w S m) (hnb : ∀ k, k < 500 → m (nb + k) = none) {o : ObSk} {k : Nat} {u u' : Binds × Ups} {x : ObEl o} {S1 : Cells} {m1 : Nat → Option MB}
    (h : Later nb σ w S m u S1 m1) (he : unO σ nb o k u = some (x, u')) : ∃ S2 m2, Further nb σ w S m u S1 m1 u' S2 m2 ∧ ToldO σ w u' S2 m2 k (fillO o x) := by
  cases o with
  | gone =>
    simp only [unO, Option.some.injEq, Prod.mk.injEq] at he
    obtain ⟨_, e⟩ := he
    subst e
    exact ⟨S1, m1, Further.refl h, fun _ _ _ _ _ _ _ _ _ o q => by cases q⟩
  | map kc vc =>
    simp only [unO] at he
    obtain ⟨⟨id, p⟩, hf, he1⟩ := Option.bind_eq_some_iff.1 he
    simp only at he1
    split at he1
    case h_2 => cases he1
    rename_i kc' vc' es hs
    obtain ⟨hp, he2⟩ := bif_some he1
    obtain ⟨y, hy, e⟩ := Option.map_eq_some_iff.1 he2
    cases e
    obtain ⟨ee, hy⟩ := castE_some hy
    cases ee
    have hy : es = x := hy
    subst hy
    have hp : p = [] := by simpa using hp
    subst hp
    obtain ⟨v, hv, -⟩ := h.step.rel.sto _ _ hs
    refine ⟨S1, m1, Further.refl h, fun ρ S' m' σ' h1 h2 h3 h4 h5 o ho _ => ?_⟩
    cases ho
    have hs' : σ' id = some (.map kc vc es) := h4 _ _ hs
    obtain ⟨v', hv', hob⟩ := h5.sto _ _ hs'
    exact ⟨id, [], v', _, h1 _ _ hf, hv', hs', hob, fun _ _ q => q⟩
  | row e sh =>
    simp only [unO] at he
    obtain ⟨⟨id, p⟩, hf, he1⟩ := Option.bind_eq_some_iff.1 he
    simp only at he1
    split at he1
    case h_2 => cases he1
    rename_i e' sh' l hs
    obtain ⟨hp, he2⟩ := bif_some he1
    obtain ⟨y, hy, e0⟩ := Option.map_eq_some_iff.1 he2
    obtain ⟨ee, hy⟩ := castE_some hy
    cases ee
    have hy : l = y := hy
    subst hy
    simp only [Bool.and_eq_true] at hp
    have hp1 : p = [] := by simpa using hp.1
    subst hp1
    obtain ⟨v, hv, -⟩ := h.step.rel.sto _ _ hs
    have told : ∀ {u' : Binds × Ups} {S2 : Cells} {m2 : Nat → Option MB}, Further nb σ w S m u S1 m1 u' S2 m2 → ToldO σ w u' S2 m2 k (some (.row e sh l)) := by
      intro u' S2 m2 fu ρ S' m' σ' h1 h2 h3 h4 h5 o ho hfl
      cases ho
      obtain ⟨sh2, hs', _⟩ := (fu.more.trans h4) _ _ hs
      obtain ⟨v', hv', hob⟩ := h5.sto _ _ hs'
      have hfind := h1 _ _ (fu.le _ _ hf)
      have := hfl _ _ _ rfl _ _ hfind _ _ _ hs'
      subst this
      exact ⟨id, [], v', _, hfind, hv', hs', hob, fun _ _ q => q⟩
    cases hb : (sh && !sh') with
    | false =>
      simp only [hb, cond_false, Prod.mk.injEq, Option.some.injEq] at e0
      obtain ⟨e1, e2⟩ := e0
      subst e1; subst e2
      exact ⟨S1, m1, Further.refl h, told (Further.refl h)⟩
    | true =>
      simp only [hb, cond_true, Prod.mk.injEq, Option.some.injEq] at e0
      obtain ⟨e1, e2⟩ := e0
      subst e1; subst e2
      obtain ⟨S2, k1, k2, -⟩ := h.step.rel.freezeRow hs hv
      have dom0 : (∃ p, σ id = some p) ∨ ∃ k, k < 500 ∧ id = nb + k := by
        cases hq : σ id with
        | some p => exact .inl ⟨p, rfl⟩
        | none =>
          by_cases hm : ∃ o', (id, o') ∈ u.2
          · obtain ⟨o', hm⟩ := hm
            rcases h.dom id o' hm with ⟨p, q⟩ | q
            · rw [hq] at q; cases q
            · exact .inr q
          · have := upds_noneU (u := u.2) (τ := σ) (i := id) fun o' q => hm ⟨o', q⟩
            rw [this, hq] at hs; cases hs
      have fu : Further nb σ w S m u S1 m1 (u.1, u.2 ++ [(id, some (.row e true l))]) S2 m1 := by
        have km : More (upds u.2 σ) (upds (u.2 ++ [(id, some (.row e true l))]) σ) := by
          rw [upds_append]
          intro i o ho
          by_cases hi : i = id
          · subst hi; rw [hs] at ho; cases ho; exact ⟨true, upd_eq, fun _ => rfl⟩
          · have e3 : upds [(id, some (Obj.row e true l))] (upds u.2 σ) i = upds u.2 σ i := upd_ne hi
            cases o with
            | row e sh l => exact ⟨sh, by rw [e3]; exact ho, fun q => q⟩
            | cell c fz t => show upds _ _ i = _; rw [e3]; exact ho
            | map kc vc es => show upds _ _ i = _; rw [e3]; exact ho
        refine ⟨⟨?_, h.more.trans km, h.ids, (fun i o q => (List.mem_append.1 q).elim (h.dom i o) (fun q => by simp only [List.mem_singleton, Prod.mk.injEq] at q; rw [q.1]; exact dom0)), fun i o h1 h2 => ?_, h.bnd⟩, Binds.le_refl _, k1.keeps, fun _ _ q => q, km⟩
        case refine_2 =>
          have h2 : upds (u.2 ++ [(id, some (Obj.row e true l))]) σ i = some o := h2
          rw [upds_append] at h2
          by_cases hi : i = id
          · subst hi
            have : some (Obj.row e true l) = some o := by rw [← h2]; exact upd_eq.symm
            cases this
            obtain ⟨e2, sh2, q1, q2⟩ := h.nils i _ h1 hs
            cases q1
            exact ⟨e, true, rfl, q2⟩
          · have h2 : upds u.2 σ i = some o := by rw [← h2]; exact (upd_ne hi).symm
            exact h.nils i o h1 h2
        show Step1 σ w S m (upds (u.2 ++ [_]) σ) w S2 m1
        rw [upds_append]; exact h.step.trans k1
      exact ⟨S2, m1, fu, told fu⟩
  | cell c s =>
    simp only [unO] at he
    obtain ⟨⟨id, p⟩, hf, he1⟩ := Option.bind_eq_some_iff.1 he
    simp only at he1
    split at he1
    case h_2 => cases he1
    rename_i c0 t0 hs
    split at he1
    case h_2 => cases he1
    rename_i c1 hc1
    obtain ⟨hcc, he2⟩ := bif_some he1
    simp only [decide_eq_true_eq] at hcc
    subst hcc
    obtain ⟨t, ht, he3⟩ := Option.bind_eq_some_iff.1 he2
    obtain ⟨⟨y, u2⟩, hu, he4⟩ := Option.bind_eq_some_iff.1 he3
    obtain ⟨hfit, he5⟩ := bif_some he4
    cases he5
    obtain ⟨v, hv, g0, g1, gf, cs, g2, g3, g4, -⟩ := h.step.rel.sto _ _ hs
    obtain ⟨t', hk, htf, htr, hle⟩ := getT_ok gf g3 hc1 ht
    cases hk
    obtain ⟨⟨S2, m2, fu, told⟩, _⟩ := unT_ok h0 hnb h htr hu
    refine ⟨S2, m2, fu, fun ρ S' m' σ' h1 h2 h3 h4 h5 o ho _ => ?_⟩
    cases ho
    have hs' : σ' id = some (.cell c0 false t0) := (fu.more.trans h4) _ _ hs
    have hv' := h3 _ _ (fu.maps _ _ hv)
    have hcs := RepC.length gf g3
    refine ⟨id, p, v, _, h1 _ _ (fu.le _ _ hf), hv', hs', ⟨?_, ?_, hfit, _, ?_, told ρ S' m' h1 h2 h3, fun _ j hj => ?_, fun q => by cases q⟩, ?_⟩
    · cases p with
      | nil => exact g0
      | cons q r => rfl
    · cases p with
      | nil => simp only [codeAt, Option.some.injEq] at hc1; show v.code = _; rw [g1, hc1]
      | cons q r => show (codeAt v.code (q :: r)).getD v.code = _; rw [g1, hc1]; rfl
    · rw [subM_b, subM_o, g1]; exact rangeAt_sub g2 _ _
    · rw [subM_b, subM_o, g1, Nat.add_assoc]; exact g4 rfl _ (by omega)
    · rintro b y ⟨q0, q1, q2, q3⟩
      rw [subM_b] at q1
      rw [subM_o, g1] at q2 q3
      exact ⟨rfl, q1, by omega, by omega⟩

theorem unOs_ok {nb : Nat} (h0 : StoRel σ w S m) (hnb : ∀ k, k < 500 → m (nb + k) = none) : ∀ {l : List ObSk} {k : Nat} {u u' : Binds × Ups} {x : ObsEl l} {S1 : Cells} {m1 : Nat → Option MB},
    Later nb σ w S m u S1 m1 → unOs σ nb l k u = some (x, u') → ∃ S2 m2, Further nb σ w S m u S1 m1 u' S2 m2 ∧ ∀ j ob, (fillOs l x)[j]? = some ob → ToldO σ w u' S2 m2 (k + j) ob
  | [], k, u, u', x, S1, m1, h, he => by
    simp only [unOs, Option.some.injEq, Prod.mk.injEq] at he
    obtain ⟨_, e⟩ := he
    subst e
    exact ⟨S1, m1, Further.refl h, fun j ob q => by simp [fillOs] at q⟩
  | o :: r, k, u, u', x, S1, m1, h, he => by
    simp only [unOs] at he
    obtain ⟨⟨v1, u1⟩, e1, he1⟩ := Option.bind_eq_some_iff.1 he
    obtain ⟨⟨v2, u2⟩, e2, he2⟩ := Option.map_eq_some_iff.1 he1
    clear he he1
    cases he2
    obtain ⟨S2, m2, k1, k2⟩ := unO_ok h0 hnb h e1
    obtain ⟨S3, m3, k3, k4⟩ := unOs_ok h0 hnb k1.later e2
    refine ⟨S3, m3, k1.trans k3, fun j ob q => ?_⟩
    cases j with
    | zero =>
      have : fillO o v1 = ob := by simpa [fillOs] using q
      subst this
      exact k2.later k3
    | succ j =>
      have := k4 j ob (by simpa [fillOs] using q)
      rwa [show k + (j + 1) = k + 1 + j by omega]

theorem elemN_ids : ∀ {ρ : Binds} {k id : Nat} {p : List Step}, ρ.find k = some (id, p) → elemN id ρ.ids = true
  | [], k, id, p, h => by cases h
  | (j, id', p') :: r, k, id, p, h => by
    rw [find_cons] at h
    cases hkj : Nat.beq j k with
    | true => rw [hkj] at h; cases h; simp [Binds.ids, elemN]
    | false => rw [hkj] at h; simp [Binds.ids, elemN, elemN_ids (show Binds.find r k = some (id, p) from h)]

theorem distinct_find : ∀ {ρ : Binds} {i j id : Nat} {p q : List Step}, distinct ρ.ids = true → ρ.find i = some (id, p) → ρ.find j = some (id, q) → i = j
  | [], i, j, id, p, q, _, h, _ => by cases h
  | (k, id', p') :: r, i, j, id, p, q, hd, hi, hj => by
    simp only [Binds.ids, distinct, Bool.and_eq_true, Bool.not_eq_true'] at hd
    rw [find_cons] at hi hj
    cases h1 : Nat.beq k i with
    | true =>
      rw [h1] at hi; cases hi
      cases h2 : Nat.beq k j with
      | true => exact (Nat.eq_of_beq_eq_true h1).symm.trans (Nat.eq_of_beq_eq_true h2)
      | false => rw [h2] at hj; have := elemN_ids (show Binds.find r j = some (_, q) from hj); rw [hd.1] at this; cases this
    | false =>
      rw [h1] at hi
      cases h2 : Nat.beq k j with
      | true => rw [h2] at hj; cases hj; have := elemN_ids (show Binds.find r i = some (_, p) from hi); rw [hd.1] at this; cases this
      | false => rw [h2] at hj; exact distinct_find hd.2 hi hj

theorem objs0_get : ∀ {l : List (Option Obj)} {n : Nat} {o : Obj}, objs0 l n = some o → l[n]? = some (some o)
  | [], n, o, h => by cases h
  | x :: l, 0, o, h => by simpa [objs0] using h
  | x :: l, n + 1, o, h => by simpa using objs0_get (show objs0 l n = some o from h)

theorem fillO_row {o : ObSk} {x : ObEl o} {e : K} {sh : Bool} {l : List (El e)} (h : fillO o x = some (.row e sh l)) : o = .row e sh := by
  cases o with
  | row e' sh' => simp only [fillO, Option.some.injEq, Obj.row.injEq] at h; rw [h.1, h.2.1]
  | _ => simp [fillO] at h

theorem flagsOk_get {σ : Sto} {ρ : Binds} : ∀ {l : List ObSk} {k j : Nat} {e : K} {sh : Bool}, flagsOk σ ρ k l = true → l[j]? = some (.row e sh) → ∀ id p, ρ.find (k + j) = some (id, p) → ∀ e' sh' l', σ id = some (.row e' sh' l') → sh = sh'
  | [], k, j, e, sh, h, hl => by simp at hl
  | o :: l, k, 0, e, sh, h, hl => by
    simp at hl; subst hl
    simp only [flagsOk, Bool.and_eq_true] at h
    intro id p hf e' sh' l' hs
    rw [Nat.add_zero] at hf
    have := h.1
    simp only [hf, hs] at this
    simpa using this
  | o :: l, k, j + 1, e, sh, h, hl => by
    have h' : flagsOk σ ρ (k + 1) l = true := by
      cases o with
      | row e sh => simp only [flagsOk, Bool.and_eq_true] at h; exact h.2
      | _ => exact h
    have := flagsOk_get h' (show l[j]? = some (.row e sh) by simpa using hl)
    rwa [show k + (j + 1) = k + 1 + j by omega]

theorem fillOs_get : ∀ {l : List ObSk} {x : ObsEl l} {j : Nat} {ob : Option Obj}, (fillOs l x)[j]? = some ob → ∃ o y, l[j]? = some o ∧ ob = fillO o y
  | [], x, j, ob, h => by simp [fillOs] at h
  | o :: l, x, 0, ob, h => by simp [fillOs] at h; exact ⟨o, x.1, rfl, h.symm⟩
  | o :: l, x, j + 1, ob, h => by
    obtain ⟨o', y, h1, h2⟩ := fillOs_get (show (fillOs l x.2)[j]? = some ob by simpa [fillOs] using h)
    exact ⟨o', y, by simpa using h1, h2⟩

/-- The skeleton's state, numbered anew. -/
theorem un_final {nb : Nat} {ρ : Binds} {ups : Ups} {Sf : Cells} {mf : Nat → Option MB} {l : List ObSk} {x : ObsEl l} (h : Later nb σ w S m (ρ, ups) Sf mf) (ht : ∀ j ob, (fillOs l x)[j]? = some ob → ToldO σ w (ρ, ups) Sf mf j ob)
    (hd : distinct ρ.ids = true) (hfl : flagsOk (upds ups σ) ρ 0 l = true) :
    StoRel (objs0 (fillOs l x)) w Sf (bindM ρ mf) ∧ (∀ b y, OwnSt (objs0 (fillOs l x)) (bindM ρ mf) b y → OwnJ (fun id => ∃ k p, ρ.find k = some (id, p)) (upds ups σ) mf b y) ∧
      ∀ i o u, objs0 (fillOs l x) i = some o → bindM ρ mf i = some u → ∃ id p v o', ρ.find i = some (id, p) ∧ mf id = some v ∧ upds ups σ id = some o' ∧ u = subM v p ∧ ∀ b y, Own u o b y → Own v o' b y := by
  have key : ∀ i o, objs0 (fillOs l x) i = some o → ∃ id p v o', ρ.find i = some (id, p) ∧ mf id = some v ∧ upds ups σ id = some o' ∧ ObjOk w Sf (bindM ρ mf) (subM v p) o ∧ ∀ b y, Own (subM v p) o b y → Own v o' b y := by
    intro i o ho
    have hg := objs0_get ho
    obtain ⟨os, y, h1, h2⟩ := fillOs_get hg
    refine ht i _ hg ρ Sf mf (upds ups σ) (Binds.le_refl _) (Keeps.refl ..) (fun _ _ q => q) (More.refl _) h.step.rel o rfl fun e sh l2 he => ?_
    subst he
    have := fillO_row h2.symm
    subst this
    have h3 := flagsOk_get hfl h1
    simpa using h3
  have place : ∀ i o u, objs0 (fillOs l x) i = some o → bindM ρ mf i = some u → ∃ id p v o', ρ.find i = some (id, p) ∧ mf id = some v ∧ upds ups σ id = some o' ∧ u = subM v p ∧ ∀ b y, Own u o b y → Own v o' b y := by
    intro i o u ho hu
    obtain ⟨id, p, v, o', h1, h2, h3, h4, h5⟩ := key i o ho
    have : bindM ρ mf i = some (subM v p) := by simp [bindM, h1, h2]
    rw [hu] at this; cases this
    exact ⟨id, p, v, o', h1, h2, h3, rfl, h5⟩
  refine ⟨⟨fun i o ho => ?_, fun i j o q u v hij ho hq hu hv b y hx hy => ?_, fun i o u ho hu b y hs hx => ?_, h.step.rel.live⟩, ?_, place⟩
  · obtain ⟨id, p, v, o', h1, h2, h3, h4, h5⟩ := key i o ho
    exact ⟨subM v p, by simp [bindM, h1, h2], h4⟩
  · obtain ⟨id, p, v1, o', h1, h2, h3, h4, h5⟩ := place i o u ho hu
    obtain ⟨id', p', v2, o'', g1, g2, g3, g4, g5⟩ := place j q v hq hv
    have hne : id ≠ id' := fun e => by subst e; exact hij (distinct_find hd h1 g1)
    exact h.step.rel.apart id id' o' o'' v1 v2 hne h3 g3 h2 g2 b y (h5 b y hx) (g5 b y hy)
  · obtain ⟨id, p, v1, o', h1, h2, h3, h4, h5⟩ := place i o u ho hu
    exact h.step.rel.stab id o' v1 h3 h2 b y hs (h5 b y hx)
  · rintro b y ⟨i, o, u, ho, hu, hx⟩
    obtain ⟨id, p, v1, o', h1, h2, h3, h4, h5⟩ := place i o u ho hu
    exact ⟨id, o', v1, ⟨i, p, h1⟩, h3, h2, h5 b y hx⟩
end
end Go.Proofs.D
