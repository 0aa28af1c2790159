/- An operation looks at its operands alone, and at the objects that these lead to. -/
import Derived.Test.YtmmhjcimijfipaaGreatDCall
set_option linter.unusedVariables false
set_option linter.unusedSimpArgs false
namespace Go.Proofs.D
open Go.RowKit

section
variable {C : Ctx} {o : Oper} {s s' : Nat → T} {σ σ' : Sto} {R : Type} {κ : T → Ups → Option R}

def AgreeE (s s' : Nat → T) (l : List Operand) : Prop := ∀ t, Operand.tmp t ∈ l → s' t = s t

theorem opnd_congr {l : List Operand} (h : AgreeE s s' l) {x : Operand} (hx : x ∈ l) (c : Option K) : opnd s' c x = opnd s c x := by
  cases x with
  | tmp t => simp only [opnd, h t hx]
  | _ => rfl

theorem optOpnd_congr {l : List Operand} (h : AgreeE s s' l) {x : Option Operand} (hx : ∀ y ∈ x, y ∈ l) : optOpnd s' x = optOpnd s x := by
  cases x with
  | none => rfl
  | some y => simp only [optOpnd, opnd_congr h (hx y rfl)]

theorem constT_ids {c : Option K} {v : Value} {t : T} (h : constT c v = some t) : t.ids = [] := by
  unfold constT at h
  split at h <;> first | (cases h; rfl) | (split at h <;> first | (cases h; rfl) | cases h) | cases h

theorem idsOf_mem {l : List Operand} {t : Nat} (h : Operand.tmp t ∈ l) {i : Nat} (hi : i ∈ (s t).ids) : i ∈ idsOf s l := by
  induction l with
  | nil => cases h
  | cons x r ih =>
    rcases List.mem_cons.1 h with e | e
    · subst e; simp only [idsOf]; exact List.mem_append_left _ hi
    · have := ih e
      cases x with
      | tmp u => simp only [idsOf]; exact List.mem_append_right _ this
      | _ => exact this

theorem opnd_ids {l : List Operand} {x : Operand} (hx : x ∈ l) {c : Option K} {u : T} (h : opnd s c x = some u) : ∀ i ∈ u.ids, i ∈ idsOf s l := by
  intro i hi
  cases x with
  | tmp t =>
    have : s t = u := by
      simp only [opnd, T.known] at h
      split at h
      · cases h
      · exact Option.some.inj h
    subst this; exact idsOf_mem hx hi
  | const v => rw [constT_ids h] at hi; cases hi
  | func f => simp only [opnd] at h; obtain ⟨_, h⟩ := bif_some h; cases h; simp [T.ids] at hi
  | global g => simp [opnd] at h

theorem freeze_congr : ∀ {c : K} {t : T}, (∀ i ∈ t.ids, σ' i = σ i) → freeze σ' c t = freeze σ c t
  | c, .val c' y, _ => by cases c <;> first | rfl | (rename_i n e; cases n <;> rfl)
  | .slice e, .row id, h => by simp only [freeze, h id (by simp [T.ids])]
  | .cons ka kb, .pair y z, h => by
    simp only [freeze]
    rw [freeze_congr fun i hi => h i (by simp only [T.ids]; exact List.mem_append_left _ hi), freeze_congr (c := kb) fun i hi => h i (by simp only [T.ids]; exact List.mem_append_right _ hi)]
  | .arr (n + 1) e, .pair y z, h => by
    simp only [freeze]
    rw [freeze_congr fun i hi => h i (by simp only [T.ids]; exact List.mem_append_left _ hi), freeze_congr (c := .arr n e) fun i hi => h i (by simp only [T.ids]; exact List.mem_append_right _ hi)]
  | .slice e, .nils _, _ => rfl
  | .unit, .unit, _ => rfl
  | .arr 0 e, .unit, _ => rfl
  | c, .any _, _ => by cases c <;> first | rfl | (rename_i n e; cases n <;> rfl)
  | c, .und, _ => by cases c <;> first | rfl | (rename_i n e; cases n <;> rfl)
  | c, .nilr _, _ => by cases c <;> first | rfl | (rename_i n e; cases n <;> rfl)
  | c, .ptr _ _, _ => by cases c <;> first | rfl | (rename_i n e; cases n <;> rfl)
  | c, .rptr _ _, _ => by cases c <;> first | rfl | (rename_i n e; cases n <;> rfl)
  | c, .mapr _, _ => by cases c <;> first | rfl | (rename_i n e; cases n <;> rfl)
  | c, .clo _ _, _ => by cases c <;> first | rfl | (rename_i n e; cases n <;> rfl)
  | c, .tn, _ => by cases c <;> first | rfl | (rename_i n e; cases n <;> rfl)
  | c, .tc _ _, _ => by cases c <;> first | rfl | (rename_i n e; cases n <;> rfl)
  | c, .tup _, _ => by cases c <;> first | rfl | (rename_i n e; cases n <;> rfl)
  | .int _, .nils _, _ => rfl
  | .bool, .nils _, _ => rfl
  | .str, .nils _, _ => rfl
  | .hdr, .nils _, _ => rfl
  | .ref _, .nils _, _ => rfl
  | .unit, .nils _, _ => rfl
  | .cons _ _, .nils _, _ => rfl
  | .arr n e, .nils _, _ => by cases n <;> rfl
  | .int _, .row _, _ => rfl
  | .bool, .row _, _ => rfl
  | .str, .row _, _ => rfl
  | .hdr, .row _, _ => rfl
  | .ref _, .row _, _ => rfl
  | .unit, .row _, _ => rfl
  | .cons _ _, .row _, _ => rfl
  | .arr n e, .row _, _ => by cases n <;> rfl
  | .int _, .unit, _ => rfl
  | .bool, .unit, _ => rfl
  | .str, .unit, _ => rfl
  | .hdr, .unit, _ => rfl
  | .ref _, .unit, _ => rfl
  | .slice _, .unit, _ => rfl
  | .cons _ _, .unit, _ => rfl
  | .arr (n + 1) e, .unit, _ => rfl
  | .int _, .pair _ _, _ => rfl
  | .bool, .pair _ _, _ => rfl
  | .str, .pair _ _, _ => rfl
  | .hdr, .pair _ _, _ => rfl
  | .ref _, .pair _ _, _ => rfl
  | .slice _, .pair _ _, _ => rfl
  | .unit, .pair _ _, _ => rfl
  | .arr 0 e, .pair _ _, _ => rfl

theorem shapeP_congr {id : Nat} (h : σ' id = σ id) (p : List Step) : shapeP σ' id p = shapeP σ id p := by simp only [shapeP, h]

theorem parts_congr {l : List Operand} (h : AgreeE s s' l) {arr : Bool} {c : K} : ∀ {ps : List (Nat × Operand)} {t : T} {k : T → Option R}, (∀ x ∈ ps, x.2 ∈ l) → parts s' arr c ps t k = parts s arr c ps t k
  | [], _, _, _ => rfl
  | (i, x) :: r, t, k, hx => by
    simp only [parts]
    split
    · rename_i d _
      rw [opnd_congr h (hx (i, x) List.mem_cons_self)]
      cases opnd s (some d) x with
      | none => rfl
      | some u =>
        simp only []
        congr 1
        funext t'
        exact parts_congr h fun y hy => hx y (List.mem_cons_of_mem _ hy)
    · rfl

theorem elems_congr {l : List Operand} (h : AgreeE s s' l) (hσ : ∀ i ∈ idsOf s l, σ' i = σ i) {e : K} : ∀ {ps : List (Nat × Operand)} {j : Nat}, (∀ x ∈ ps, x.2 ∈ l) → elems s' σ' e ps j = elems s σ e ps j
  | [], _, _ => rfl
  | (i, x) :: r, j, hx => by
    simp only [elems]
    rw [opnd_congr h (hx (i, x) List.mem_cons_self)]
    cases hq : opnd s (some e) x with
    | none => rfl
    | some u =>
      simp only []
      rw [freeze_congr (σ := σ) (σ' := σ') fun a ha => hσ a (opnd_ids (hx (i, x) List.mem_cons_self) hq a ha), elems_congr h hσ fun y hy => hx y (List.mem_cons_of_mem _ hy)]

theorem chainT_congr {l : List Operand} (h : AgreeE s s' l) : ∀ {xs : List Operand} {tys : List (Option K)}, (∀ x ∈ xs, x ∈ l) → chainT s' tys xs = chainT s tys xs
  | [], _, _ => rfl
  | x :: r, tys, hx => by
    simp only [chainT]
    rw [opnd_congr h (hx x List.mem_cons_self), chainT_congr h fun y hy => hx y (List.mem_cons_of_mem _ hy)]

theorem chainT_ids {l : List Operand} : ∀ {xs : List Operand} {tys : List (Option K)} {t c : T}, (∀ x ∈ xs, x ∈ l) → chainT s tys xs = some t → ∀ i ∈ (t.app c).ids, i ∈ idsOf s l ∨ i ∈ c.ids
  | [], tys, t, c, _, h, i, hi => by
    simp only [chainT, Option.some.injEq] at h; subst h; exact .inr hi
  | x :: r, tys, t, c, hx, h, i, hi => by
    simp only [chainT] at h
    obtain ⟨u, hu, h⟩ := Option.bind_eq_some_iff.1 h
    obtain ⟨q, hq, e⟩ := Option.map_eq_some_iff.1 h
    cases e
    simp only [T.app, T.ids] at hi
    rcases List.mem_append.1 hi with hi | hi
    · exact .inl (opnd_ids (hx x List.mem_cons_self) hu i hi)
    · exact chainT_ids (fun y hy => hx y (List.mem_cons_of_mem _ hy)) hq i hi

theorem chainT_ids0 {l : List Operand} : ∀ {xs : List Operand} {tys : List (Option K)} {t : T}, (∀ x ∈ xs, x ∈ l) → chainT s tys xs = some t → ∀ i ∈ t.ids, i ∈ idsOf s l
  | [], tys, t, _, h, i, hi => by
    simp only [chainT, Option.some.injEq] at h; subst h; cases hi
  | x :: r, tys, t, hx, h, i, hi => by
    simp only [chainT] at h
    obtain ⟨u, hu, h⟩ := Option.bind_eq_some_iff.1 h
    obtain ⟨q, hq, e⟩ := Option.map_eq_some_iff.1 h
    cases e
    simp only [T.ids] at hi
    rcases List.mem_append.1 hi with hi | hi
    · exact opnd_ids (hx x List.mem_cons_self) hu i hi
    · exact chainT_ids0 (fun y hy => hx y (List.mem_cons_of_mem _ hy)) hq i hi
theorem app_ids {u : T} : ∀ {t : T}, t.isChain = true → ∀ i ∈ (t.app u).ids, i ∈ t.ids ∨ i ∈ u.ids
  | .tn, _, i, hi => .inr hi
  | .tc a b, h, i, hi => by
    simp only [T.app, T.ids] at hi ⊢
    rcases List.mem_append.1 hi with q | q
    · exact .inl (List.mem_append_left _ q)
    · exact (app_ids (t := b) h i q).imp (List.mem_append_right _) id
  | .any _, h, _, _ => by cases h
  | .und, h, _, _ => by cases h
  | .val _ _, h, _, _ => by cases h
  | .nils _, h, _, _ => by cases h
  | .nilr _, h, _, _ => by cases h
  | .ptr _ _, h, _, _ => by cases h
  | .row _, h, _, _ => by cases h
  | .rptr _ _, h, _, _ => by cases h
  | .mapr _, h, _, _ => by cases h
  | .clo _ _, h, _, _ => by cases h
  | .unit, h, _, _ => by cases h
  | .pair _ _, h, _, _ => by cases h
  | .tup _, h, _, _ => by cases h

/-! ### Calls -/
theorem getE_ids : ∀ {c : K} {x : El c} {p : List Step} {t : T}, getE c x p some = some t → t.ids = [] := by
  intro c
  induction c with
  | cons a b iha ihb =>
    intro x p t h
    cases p with
    | nil => cases h; rfl
    | cons q p =>
      cases q with
      | fld j => cases j with
        | zero => exact iha h
        | succ j => exact ihb h
      | idx i => simp [getE] at h
  | arr n e ih =>
    intro x p t h
    cases p with
    | nil => cases h; rfl
    | cons q p =>
      cases q with
      | fld j => simp [getE] at h
      | idx i =>
        simp only [getE, nthK] at h
        cases i with
        | negSucc n => simp [natK] at h
        | ofNat n =>
          simp only [natK, nthN] at h
          split at h
          · exact ih h
          · cases h
  | _ =>
    intro x p t h
    cases p with
    | nil => cases h; rfl
    | cons q p => cases q <;> simp [getE] at h

theorem getT_ids : ∀ {u : T} {p : List Step} {t : T}, getT u p some = some t → ∀ i ∈ t.ids, i ∈ u.ids := by
  intro u
  induction u with
  | val c x => intro p t h i hi; rw [getE_ids (show getE c x p some = some t by cases p <;> exact h)] at hi; cases hi
  | pair a b iha ihb =>
    intro p t h i hi
    cases p with
    | nil => cases h; exact hi
    | cons q p =>
      simp only [T.ids]
      cases q with
      | fld j => cases j with
        | zero => exact List.mem_append_left _ (iha h i hi)
        | succ j => exact List.mem_append_right _ (ihb h i hi)
      | idx z => cases z with
        | negSucc n => simp [getT] at h
        | ofNat j => cases j with
          | zero => exact List.mem_append_left _ (iha h i hi)
          | succ j => exact List.mem_append_right _ (ihb h i hi)
  | _ =>
    intro p t h i hi
    cases p with
    | nil => cases h; exact hi
    | cons q p => simp [getT] at h

/-- What is bound: objects that may be looked at, and rows that are new. -/
structure Bound (Q : Nat → Prop) (u : Binds × Ups) : Prop where
  ids : ∀ e ∈ u.1, Q e.2.1 ∨ (e.2.2 = [] ∧ ∃ o, (e.2.1, o) ∈ u.2)
  rows : ∀ i o, (i, o) ∈ u.2 → ∃ e sh l, o = some (.row e sh l)

theorem upds_mem : ∀ {u : Ups} {i : Nat}, (∃ o, (i, o) ∈ u) → ∃ o, (i, o) ∈ u ∧ ∀ τ : Sto, upds u τ i = o
  | [], i, ⟨o, h⟩ => by cases h
  | (k, p) :: r, i, h => by
    by_cases hr : ∃ o, (i, o) ∈ r
    · obtain ⟨o, h1, h2⟩ := upds_mem hr
      exact ⟨o, List.mem_cons_of_mem _ h1, fun τ => h2 _⟩
    · obtain ⟨o, h⟩ := h
      rcases List.mem_cons.1 h with e | e
      · cases e
        refine ⟨p, List.mem_cons_self, fun τ => ?_⟩
        simp only [upds]
        rw [upds_none fun o' q => hr ⟨o', q⟩]
        exact upd_eq
      · exact absurd ⟨o, e⟩ hr

theorem find_mem : ∀ {ρ : Binds} {k id : Nat} {p : List Step}, ρ.find k = some (id, p) → (k, id, p) ∈ ρ
  | [], k, id, p, h => by cases h
  | (j, b) :: r, k, id, p, h => by
    obtain ⟨id', p'⟩ := b
    rw [find_cons] at h
    cases hkj : Nat.beq j k with
    | true => rw [hkj] at h; cases h; rw [Nat.eq_of_beq_eq_true hkj]; exact List.mem_cons_self
    | false => rw [hkj] at h; exact List.mem_cons_of_mem _ (find_mem h)

theorem bind_mem {ρ ρ' : Binds} {k id : Nat} {p : List Step} (h : ρ.bind k id p = some ρ') : ∀ e ∈ ρ', e ∈ ρ ∨ e = (k, id, p) := by
  intro e he
  unfold Binds.bind at h
  split at h
  · cases h
    rcases List.mem_cons.1 he with q | q
    · exact .inr q
    · exact .inl q
  · obtain ⟨_, h⟩ := bif_some h
    cases h; exact .inl he

section
variable {Q : Nat → Prop}

theorem Bound.bind {ρ ρ' : Binds} {ups : Ups} {k id : Nat} {p : List Step} (h : Bound Q (ρ, ups)) (hb : ρ.bind k id p = some ρ') (hq : Q id) : Bound Q (ρ', ups) :=
  ⟨fun e he => (bind_mem hb e he).elim (h.ids e) fun q => by subst q; exact .inl hq, h.rows⟩

theorem freeze_rows : ∀ {c : K} {t : T} {x : El c} {u : Ups}, freeze σ c t = some (x, u) → ∀ i o, (i, o) ∈ u → ∃ e sh l, o = some (.row e sh l)
  | c, .val c' y, x, u, he, i, o, hi => by
    have he' : (castE c' c y).map (fun y => (y, ([] : Ups))) = some (x, u) := by cases c <;> first | exact he | (rename_i n e; cases n <;> exact he)
    obtain ⟨z, hz, e⟩ := Option.map_eq_some_iff.1 he'
    cases e; cases hi
  | .slice e, .nils e', x, u, he, i, o, hi => by
    simp only [freeze, Option.some.injEq, Prod.mk.injEq] at he
    obtain ⟨_, e2⟩ := he; subst e2; cases hi
  | .slice e, .row id, x, u, he, i, o, hi => by
    simp only [freeze] at he
    split at he
    case h_2 => cases he
    rename_i e' sh l hs
    obtain ⟨z, hz, e1⟩ := Option.map_eq_some_iff.1 he
    cases e1
    simp only [List.mem_singleton, Prod.mk.injEq] at hi
    rw [hi.2]; exact ⟨_, _, _, rfl⟩
  | .unit, .unit, x, u, he, i, o, hi => by
    simp only [freeze, Option.some.injEq, Prod.mk.injEq] at he
    obtain ⟨_, e2⟩ := he; subst e2; cases hi
  | .cons ka kb, .pair y z, x, u, he, i, o, hi => by
    simp only [freeze] at he
    obtain ⟨⟨v1, u1⟩, e1, he⟩ := Option.bind_eq_some_iff.1 he
    obtain ⟨⟨v2, u2⟩, e2, he⟩ := Option.map_eq_some_iff.1 he
    cases he
    rcases List.mem_append.1 hi with q | q
    · exact freeze_rows e1 i o q
    · exact freeze_rows e2 i o q
  | .arr 0 e, .unit, x, u, he, i, o, hi => by
    simp only [freeze, Option.some.injEq, Prod.mk.injEq] at he
    obtain ⟨_, e2⟩ := he; subst e2; cases hi
  | .arr (n + 1) e, .pair y z, x, u, he, i, o, hi => by
    simp only [freeze] at he
    obtain ⟨⟨v1, u1⟩, e1, he⟩ := Option.bind_eq_some_iff.1 he
    obtain ⟨⟨v2, u2⟩, e2, he⟩ := Option.map_eq_some_iff.1 he
    cases he
    rcases List.mem_append.1 hi with q | q
    · exact freeze_rows e1 i o q
    · exact freeze_rows e2 i o q

theorem Bound.freeze {ρ : Binds} {ups v : Ups} {c : K} {t : T} {y : El c} (h : Bound Q (ρ, ups)) (he : freeze σ c t = some (y, v)) : Bound Q (ρ, ups ++ v) :=
  ⟨fun e hm => (h.ids e hm).imp (fun q => q) fun ⟨q1, o, q2⟩ => ⟨q1, o, List.mem_append_left _ q2⟩,
   fun i o hm => (List.mem_append.1 hm).elim (h.rows i o) (freeze_rows he i o)⟩

theorem unT_congr {nb : Nat} (hσ : ∀ i, Q i → σ' i = σ i) : ∀ {sk : Sk} {t : T} {u : Binds × Ups}, (∀ i ∈ t.ids, Q i) → Bound Q u →
    unT σ' nb sk t u = unT σ nb sk t u ∧ ∀ x u', unT σ nb sk t u = some (x, u') → Bound Q u' := by
  intro sk
  induction sk with
  | val c =>
    rintro t ⟨ρ, ups⟩ ht hb
    have e1 : ∀ τ : Sto, unT τ nb (.val c) t (ρ, ups) = (D.freeze τ c t).map fun v => (v.1, ρ, ups ++ v.2) := fun τ => by cases t <;> rfl
    rw [e1, e1, freeze_congr fun i hi => hσ i (ht i hi)]
    refine ⟨rfl, fun x u' he => ?_⟩
    obtain ⟨⟨y, v⟩, hf, e⟩ := Option.map_eq_some_iff.1 he
    cases e
    exact hb.freeze hf
  | row k =>
    rintro t ⟨ρ, ups⟩ ht hb
    cases t <;> first | (refine ⟨rfl, fun x u' he => ?_⟩; simp [unT] at he; done) | skip
    · rename_i e
      refine ⟨rfl, fun x u' he => ?_⟩
      simp only [unT] at he
      split at he
      case h_2 => cases he
      obtain ⟨hk, h2⟩ := bif_some he
      cases h2
      refine ⟨fun e' hm => ?_, fun i o hm => ?_⟩
      · rcases List.mem_cons.1 hm with q | q
        · subst q; exact .inr ⟨rfl, _, List.mem_append_right _ List.mem_cons_self⟩
        · exact (hb.ids e' q).imp (fun q => q) fun ⟨q1, o, q2⟩ => ⟨q1, o, List.mem_append_left _ q2⟩
      · rcases List.mem_append.1 hm with q | q
        · exact hb.rows i o q
        · simp only [List.mem_singleton, Prod.mk.injEq] at q; exact ⟨_, _, _, q.2⟩
    · refine ⟨rfl, fun x u' he => ?_⟩
      simp only [unT] at he
      obtain ⟨ρ2, h2, e⟩ := Option.map_eq_some_iff.1 he
      cases e
      exact hb.bind h2 (ht _ (by simp [T.ids]))
  | ptr k =>
    rintro t ⟨ρ, ups⟩ ht hb
    cases t <;> first | (refine ⟨rfl, fun x u' he => ?_⟩; simp [unT] at he; done) | skip
    refine ⟨rfl, fun x u' he => ?_⟩
    simp only [unT] at he
    obtain ⟨ρ2, h2, e⟩ := Option.map_eq_some_iff.1 he
    cases e
    exact hb.bind h2 (ht _ (by simp [T.ids]))
  | mapr k =>
    rintro t ⟨ρ, ups⟩ ht hb
    cases t <;> first | (refine ⟨rfl, fun x u' he => ?_⟩; simp [unT] at he; done) | skip
    refine ⟨rfl, fun x u' he => ?_⟩
    simp only [unT] at he
    obtain ⟨ρ2, h2, e⟩ := Option.map_eq_some_iff.1 he
    cases e
    exact hb.bind h2 (ht _ (by simp [T.ids]))
  | nils e =>
    rintro t u ht hb
    refine ⟨by cases t <;> rfl, fun x u' he => ?_⟩
    cases t <;> first | (simp [unT] at he; done) | skip
    simp only [unT] at he
    obtain ⟨_, h2⟩ := bif_some he
    cases h2; exact hb
  | nilr r =>
    rintro t u ht hb
    refine ⟨by cases t <;> rfl, fun x u' he => ?_⟩
    cases t <;> first | (simp [unT] at he; done) | skip
    simp only [unT] at he
    obtain ⟨_, h2⟩ := bif_some he
    cases h2; exact hb
  | clo f sk ih =>
    rintro t u ht hb
    cases t <;> first | (refine ⟨rfl, fun x u' he => ?_⟩; simp [unT] at he; done) | skip
    rename_i g c
    obtain ⟨k1, k2⟩ := ih (t := c) (u := u) (fun i hi => ht i hi) hb
    refine ⟨by simp only [unT, k1], fun x u' he => ?_⟩
    simp only [unT] at he
    obtain ⟨_, h2⟩ := bif_some he
    exact k2 _ _ h2
  | unit =>
    rintro t u ht hb
    refine ⟨by cases t <;> first | rfl | (rename_i c _; cases c <;> rfl), fun x u' he => ?_⟩
    cases t <;> first | (simp [unT] at he; done) | skip
    · rename_i c y
      cases c <;> first | (simp [unT] at he; done) | skip
      simp only [unT, Option.some.injEq, Prod.mk.injEq] at he
      obtain ⟨_, e⟩ := he
      subst e; exact hb
    · simp only [unT, Option.some.injEq, Prod.mk.injEq] at he
      obtain ⟨_, e⟩ := he
      subst e; exact hb
  | pair a b iha ihb =>
    rintro t u ht hb
    have two : ∀ {y z : T}, (∀ i ∈ y.ids, Q i) → (∀ i ∈ z.ids, Q i) →
        ((unT σ' nb a y u).bind fun v => (unT σ' nb b z v.2).map fun w => ((v.1, w.1), w.2)) = ((unT σ nb a y u).bind fun v => (unT σ nb b z v.2).map fun w => ((v.1, w.1), w.2)) ∧
        ∀ (x : SkEl a × SkEl b) u', ((unT σ nb a y u).bind fun v => (unT σ nb b z v.2).map fun w => ((v.1, w.1), w.2)) = some (x, u') → Bound Q u' := by
      intro y z hy hz
      obtain ⟨k1, k2⟩ := iha (t := y) (u := u) hy hb
      rw [k1]
      cases hq : unT σ nb a y u with
      | none => exact ⟨rfl, fun x u' he => by cases he⟩
      | some v =>
        obtain ⟨x1, u1⟩ := v
        obtain ⟨k3, k4⟩ := ihb (t := z) (u := u1) hz (k2 _ _ hq)
        simp only [Option.bind_some, k3]
        refine ⟨trivial, fun x u' he => ?_⟩
        obtain ⟨⟨x2, u2⟩, h2, e⟩ := Option.map_eq_some_iff.1 he
        cases e
        exact k4 _ _ h2
    cases t <;> first | (refine ⟨rfl, fun x u' he => ?_⟩; simp [unT] at he; done) | skip
    · rename_i c y
      cases c <;> first | (refine ⟨rfl, fun x u' he => ?_⟩; simp [unT] at he; done) | skip
      rename_i c d
      exact two (y := .val c y.1) (z := .val d y.2) (fun i hi => by simp [T.ids] at hi) (fun i hi => by simp [T.ids] at hi)
    · exact two (fun i hi => ht i (by simp only [T.ids]; exact List.mem_append_left _ hi)) (fun i hi => ht i (by simp only [T.ids]; exact List.mem_append_right _ hi))
  | tn =>
    rintro t u ht hb
    refine ⟨by cases t <;> rfl, fun x u' he => ?_⟩
    cases t <;> first | (simp [unT] at he; done) | skip
    simp only [unT, Option.some.injEq, Prod.mk.injEq] at he
    obtain ⟨_, e⟩ := he
    subst e; exact hb
  | tc a b iha ihb =>
    rintro t u ht hb
    cases t <;> first | (refine ⟨rfl, fun x u' he => ?_⟩; simp [unT] at he; done) | skip
    rename_i y z
    have hy : ∀ i ∈ y.ids, Q i := fun i hi => ht i (by simp only [T.ids]; exact List.mem_append_left _ hi)
    have hz : ∀ i ∈ z.ids, Q i := fun i hi => ht i (by simp only [T.ids]; exact List.mem_append_right _ hi)
    obtain ⟨k1, k2⟩ := iha (t := y) (u := u) hy hb
    simp only [unT]
    rw [k1]
    cases hq : unT σ nb a y u with
    | none => exact ⟨rfl, fun x u' he => by cases he⟩
    | some v =>
      obtain ⟨x1, u1⟩ := v
      obtain ⟨k3, k4⟩ := ihb (t := z) (u := u1) hz (k2 _ _ hq)
      simp only [Option.bind_some, k3]
      refine ⟨trivial, fun x u' he => ?_⟩
      obtain ⟨⟨x2, u2⟩, h2, e⟩ := Option.map_eq_some_iff.1 he
      cases e
      exact k4 _ _ h2
  | tup l ih =>
    rintro t u ht hb
    cases t <;> first | (refine ⟨rfl, fun x u' he => ?_⟩; simp [unT] at he; done) | skip
    exact ih (fun i hi => ht i hi) hb

theorem Bound.at (hσ : ∀ i, Q i → σ' i = σ i) {u : Binds × Ups} (hb : Bound Q u) {e : Nat × Nat × List Step} (he : e ∈ u.1) : upds u.2 σ' e.2.1 = upds u.2 σ e.2.1 := by
  rcases hb.ids e he with h | ⟨_, h⟩
  · exact upds_at (hσ _ h)
  · obtain ⟨o, _, h2⟩ := upds_mem h; rw [h2, h2]

theorem unO_congr {nb : Nat} (hσ : ∀ i, Q i → σ' i = σ i) (hcl : ∀ id c fz t, Q id → σ id = some (.cell c fz t) → ∀ i ∈ t.ids, Q i) {ob : ObSk} {k : Nat} {u : Binds × Ups} (hb : Bound Q u) :
    unO σ' nb ob k u = unO σ nb ob k u ∧ ∀ x u', unO σ nb ob k u = some (x, u') → Bound Q u' := by
  cases ob with
  | gone =>
    refine ⟨rfl, fun x u' he => ?_⟩
    simp only [unO, Option.some.injEq, Prod.mk.injEq] at he
    obtain ⟨_, e⟩ := he
    subst e; exact hb
  | map kc vc =>
    simp only [unO]
    cases hf : Binds.find u.1 k with
    | none => exact ⟨rfl, fun x u' he => by cases he⟩
    | some b =>
      simp only [Option.bind_some, hb.at hσ (find_mem hf)]
      refine ⟨trivial, fun x u' he => ?_⟩
      split at he
      case h_2 => cases he
      obtain ⟨_, h2⟩ := bif_some he
      obtain ⟨y, _, e⟩ := Option.map_eq_some_iff.1 h2
      cases e; exact hb
  | row e sh =>
    simp only [unO]
    cases hf : Binds.find u.1 k with
    | none => exact ⟨rfl, fun x u' he => by cases he⟩
    | some b =>
      simp only [Option.bind_some, hb.at hσ (find_mem hf)]
      refine ⟨trivial, fun x u' he => ?_⟩
      split at he
      case h_2 => cases he
      rename_i e' sh' l hs
      obtain ⟨_, h2⟩ := bif_some he
      obtain ⟨y, _, e2⟩ := Option.map_eq_some_iff.1 h2
      cases hz : (sh && !sh') with
      | false => rw [hz] at e2; cases e2; exact hb
      | true =>
        rw [hz] at e2; cases e2
        refine ⟨fun e hm => (hb.ids e hm).imp (fun q => q) fun ⟨q1, o, q2⟩ => ⟨q1, o, List.mem_append_left _ q2⟩, fun i o hm => ?_⟩
        rcases List.mem_append.1 hm with q | q
        · exact hb.rows i o q
        · simp only [List.mem_singleton, Prod.mk.injEq] at q; exact ⟨_, _, _, q.2⟩
  | cell c s =>
    simp only [unO]
    cases hf : Binds.find u.1 k with
    | none => exact ⟨rfl, fun x u' he => by cases he⟩
    | some b =>
      obtain ⟨id, p⟩ := b
      have hm := find_mem hf
      simp only [Option.bind_some, hb.at hσ hm]
      cases hs : upds u.2 σ id with
      | none => exact ⟨rfl, fun x u' he => by cases he⟩
      | some oo =>
        cases oo with
        | row e sh l => exact ⟨rfl, fun x u' he => by cases he⟩
        | map kc vc es => exact ⟨rfl, fun x u' he => by cases he⟩
        | cell c0 fz t0 =>
          cases fz with
          | true => exact ⟨rfl, fun x u' he => by cases he⟩
          | false =>
            have hq : Q id ∧ σ id = some (.cell c0 false t0) := by
              rcases hb.ids _ hm with h | ⟨_, h⟩
              · by_cases hmem : ∃ o, (id, o) ∈ u.2
                · obtain ⟨o, h1, h2⟩ := upds_mem hmem
                  obtain ⟨e, sh, l, e1⟩ := hb.rows _ _ h1
                  rw [h2, e1] at hs; cases hs
                · rw [upds_none fun o q => hmem ⟨o, q⟩] at hs; exact ⟨h, hs⟩
              · obtain ⟨o, h1, h2⟩ := upds_mem h
                obtain ⟨e, sh, l, e1⟩ := hb.rows _ _ h1
                rw [h2, e1] at hs; cases hs
            simp only []
            cases hc : codeAt c0 p with
            | none => exact ⟨rfl, fun x u' he => by cases he⟩
            | some c1 =>
              simp only []
              cases hg : getT t0 p some with
              | none => exact ⟨rfl, fun x u' he => by obtain ⟨_, he⟩ := bif_some he; cases he⟩
              | some t =>
                obtain ⟨k1, k2⟩ := unT_congr (nb := nb) hσ (sk := s) (t := t) (u := u) (fun i hi => hcl _ _ _ _ hq.1 hq.2 i (getT_ids hg i hi)) hb
                simp only [Option.bind_some, k1]
                refine ⟨trivial, fun x u' he => ?_⟩
                obtain ⟨_, he⟩ := bif_some he
                obtain ⟨⟨x1, u1⟩, h3, he⟩ := Option.bind_eq_some_iff.1 he
                obtain ⟨_, he⟩ := bif_some he
                cases he
                exact k2 _ _ h3

theorem unOs_congr {nb : Nat} (hσ : ∀ i, Q i → σ' i = σ i) (hcl : ∀ id c fz t, Q id → σ id = some (.cell c fz t) → ∀ i ∈ t.ids, Q i) : ∀ {l : List ObSk} {k : Nat} {u : Binds × Ups}, Bound Q u →
    unOs σ' nb l k u = unOs σ nb l k u ∧ ∀ x u', unOs σ nb l k u = some (x, u') → Bound Q u'
  | [], k, u, hb => ⟨rfl, fun x u' he => by
    simp only [unOs, Option.some.injEq, Prod.mk.injEq] at he
    obtain ⟨_, e⟩ := he
    subst e; exact hb⟩
  | ob :: r, k, u, hb => by
    simp only [unOs]
    obtain ⟨k1, k2⟩ := unO_congr (nb := nb) hσ hcl (ob := ob) (k := k) hb
    rw [k1]
    cases hq : unO σ nb ob k u with
    | none => exact ⟨rfl, fun x u' he => by cases he⟩
    | some v =>
      obtain ⟨x1, u1⟩ := v
      obtain ⟨k3, k4⟩ := unOs_congr (nb := nb) hσ hcl (l := r) (k := k + 1) (k2 _ _ hq)
      simp only [Option.bind_some, k3]
      refine ⟨trivial, fun x u' he => ?_⟩
      obtain ⟨⟨x2, u2⟩, h2, e⟩ := Option.map_eq_some_iff.1 he
      cases e
      exact k4 _ _ h2

theorem flagsOk_congr {τ τ' : Sto} {ρ : Binds} (h : ∀ e ∈ ρ, τ' e.2.1 = τ e.2.1) : ∀ {l : List ObSk} {k : Nat}, flagsOk τ' ρ k l = flagsOk τ ρ k l
  | [], _ => rfl
  | ob :: r, k => by
    have ih := flagsOk_congr h (l := r) (k := k + 1)
    cases ob with
    | row e sh =>
      simp only [flagsOk]
      rw [ih]
      cases hf : Binds.find ρ k with
      | none => rfl
      | some b => obtain ⟨id, p⟩ := b; simp only [h _ (find_mem hf)]
    | _ => exact ih

theorem bindsOk_congr {τ τ' : Sto} {n : Nat} : ∀ {ρ : Binds}, (∀ e ∈ ρ, τ' e.2.1 = τ e.2.1) → bindsOk τ' n ρ = bindsOk τ n ρ
  | [], _ => rfl
  | (k, id, p) :: r, h => by
    simp only [bindsOk]
    rw [bindsOk_congr fun e he => h e (List.mem_cons_of_mem _ he), shapeP_congr (h (k, id, p) List.mem_cons_self)]

theorem settle_congr {B : Nat → Option (Nat × List Step)} (h : ∀ j id p, B j = some (id, p) → p ≠ [] → σ' id = σ id) : ∀ {l : List (Option Obj)} {j : Nat} {u : Ups} {k : Ups → Option R}, settle σ' B j l u k = settle σ B j l u k
  | [], _, _, _ => rfl
  | ob :: r, j, u, k => by
    simp only [settle]
    split
    · rfl
    · split <;> exact settle_congr h
    · rename_i id p hp hj
      rw [h j id p hj (fun e => hp (by rw [e]))]
      split
      · congr 1
        funext v
        exact settle_congr h
      · rfl

theorem callK_congr {sg : Sig} {dst : Nat} {args : T} {n1 n2 : Unit → Option R} (hn : n1 () = n2 ()) (hσ : ∀ i, Q i → σ' i = σ i) (hcl : ∀ id c fz t, Q id → σ id = some (.cell c fz t) → ∀ i ∈ t.ids, Q i) (ha : ∀ i ∈ args.ids, Q i) :
    callK sg dst args σ' κ n1 = callK sg dst args σ κ n2 := by
  unfold callK
  obtain ⟨k1, k2⟩ := unT_congr (nb := 1000500 + 1000 * dst) hσ (sk := sg.args) (t := args) (u := ([], [])) ha ⟨(fun e he => by cases he), (fun i o hm => by cases hm)⟩
  rw [k1]
  cases h1 : unT σ (1000500 + 1000 * dst) sg.args args ([], []) with
  | none => exact hn
  | some v =>
    obtain ⟨x, u⟩ := v
    obtain ⟨k3, k4⟩ := unOs_congr (nb := 1000500 + 1000 * dst) hσ hcl (l := sg.objs) (k := 0) (k2 _ _ h1)
    simp only [k3]
    cases h2 : unOs σ (1000500 + 1000 * dst) sg.objs 0 u with
    | none => exact hn
    | some v =>
      obtain ⟨ob, ρ, ups⟩ := v
      have hb := k4 _ _ h2
      have hat : ∀ e ∈ ρ, upds ups σ' e.2.1 = upds ups σ e.2.1 := fun e he => hb.at hσ he
      simp only [flagsOk_congr hat, bindsOk_congr hat, hn]
      congr 1
      congr 1
      funext y
      refine settle_congr fun j id p hj hp => ?_
      rcases backM_some hj with ⟨_, q⟩ | ⟨_, _, _, q⟩
      · rcases hb.ids _ (find_mem q) with q | ⟨q, _⟩
        · exact hσ _ q
        · exact absurd q hp
      · exact absurd q hp

theorem callsK_congr {dst : Nat} {args : T} (hσ : ∀ i, Q i → σ' i = σ i) (hcl : ∀ id c fz t, Q id → σ id = some (.cell c fz t) → ∀ i ∈ t.ids, Q i) (ha : ∀ i ∈ args.ids, Q i) : ∀ {l : List Sig},
    callsK l dst args σ' κ = callsK l dst args σ κ
  | [] => rfl
  | sg :: r => by
    simp only [callsK]
    exact callK_congr (callsK_congr hσ hcl ha) hσ hcl ha
end
end
end Go.Proofs.D

/- An operation's value hangs on its operands and on the objects that these lead to alone. -/
namespace Go.Proofs.D
open Go.RowKit

section
variable {C : Ctx} {o : Oper} {s s' : Nat → T} {σ σ' : Sto} {R : Type} {κ : T → Ups → Option R}

theorem evalOp_congr {rd : List Nat} (hE : AgreeE s s' (opsOf o.op)) (hσ : ∀ i ∈ rd, σ' i = σ i) (hrd : ∀ i ∈ idsOf s (lookOps o.op), i ∈ rd)
    (hcl : isCall o.op = true → ∀ id c fz t, id ∈ rd → σ id = some (.cell c fz t) → ∀ i ∈ t.ids, i ∈ rd) : evalOp C o s' σ' κ = evalOp C o s σ κ := by
  have hi : ∀ {l : List Operand}, lookOps o.op = l → ∀ {x : Operand}, x ∈ l → ∀ {c : Option K} {u : T}, opnd s c x = some u → ∀ i ∈ u.ids, σ' i = σ i :=
    fun e x hx c u hu i hm => hσ i (hrd i (opnd_ids (by rw [e]; exact hx) hu i hm))
  cases hop : o.op with
  | move x =>
    have he := hop ▸ hE
    simp only [opsOf] at he
    simp only [evalOp, hop, opnd_congr he (x := x) (by simp)]
  | assign x =>
    have he := hop ▸ hE
    simp only [opsOf] at he
    simp only [evalOp, hop, opnd_congr he (x := x) (by simp)]
  | pick c a b =>
    have he := hop ▸ hE
    simp only [opsOf] at he
    simp only [evalOp, hop, opnd_congr he (x := c) (by simp), opnd_congr he (x := a) (by simp), opnd_congr he (x := b) (by simp)]
  | alloc t => simp only [evalOp, hop]
  | box t x =>
    have he := hop ▸ hE
    simp only [opsOf] at he
    simp only [evalOp, hop, opnd_congr he (x := x) (by simp)]
  | build t ps =>
    have he := hop ▸ hE
    simp only [opsOf] at he
    simp only [evalOp, hop]
    cases C.ty t with
    | none => rfl
    | some c =>
      simp only []
      rw [parts_congr he fun x hx => List.mem_map.2 ⟨x, hx, rfl⟩]
  | buildSlice t n ps =>
    have he := hop ▸ hE
    simp only [opsOf] at he
    have hid : ∀ i ∈ idsOf s (ps.toList.map (·.2)), σ' i = σ i := fun i hm => hσ i (hrd i (by rw [hop]; exact hm))
    simp only [evalOp, hop]
    cases C.ty t with
    | none => rfl
    | some c =>
      cases c with
      | slice e => simp only []; rw [elems_congr he hid fun x hx => List.mem_map.2 ⟨x, hx, rfl⟩]
      | _ => rfl
  | load t x =>
    have he := hop ▸ hE
    simp only [opsOf] at he
    have hx : ∀ {u : T}, opnd s (none) x = some u → ∀ i ∈ u.ids, σ' i = σ i := hi (l := [x]) (by rw [hop]; rfl) (x := x) (by simp)
    simp only [evalOp, hop, opnd_congr he (x := x) (by simp)]
    cases h : opnd s none x with
    | none => rfl
    | some u =>
      cases u with
      | ptr id p =>
        have := hx h id (by simp [T.ids])
        simp only [shapeP, this]
      | _ => rfl
  | store t x y =>
    have he := hop ▸ hE
    simp only [opsOf] at he
    have hx : ∀ {u : T}, opnd s (none) x = some u → ∀ i ∈ u.ids, σ' i = σ i := hi (l := [x, y]) (by rw [hop]; rfl) (x := x) (by simp)
    simp only [evalOp, hop, opnd_congr he (x := x) (by simp), opnd_congr he (x := y) (by simp)]
    cases h : opnd s none x with
    | none => rfl
    | some u =>
      cases u with
      | ptr id p =>
        have := hx h id (by simp [T.ids])
        cases opnd s (C.ty t) y with
        | none => rfl
        | some v => simp only [shapeP, this]
      | _ => rfl
  | nilCheck x =>
    have he := hop ▸ hE
    simp only [opsOf] at he
    simp only [evalOp, hop, opnd_congr he (x := x) (by simp)]
  | binOp op t x y ty =>
    have he := hop ▸ hE
    simp only [opsOf] at he
    simp only [evalOp, hop, opnd_congr he (x := x) (by simp), opnd_congr he (x := y) (by simp)]
  | unOp op t x =>
    have he := hop ▸ hE
    simp only [opsOf] at he
    simp only [evalOp, hop, opnd_congr he (x := x) (by simp)]
  | convert t d x =>
    have he := hop ▸ hE
    simp only [opsOf] at he
    simp only [evalOp, hop, opnd_congr he (x := x) (by simp)]
  | slice t x lo hh mx =>
    have he := hop ▸ hE
    simp only [opsOf] at he
    have hx : ∀ {u : T}, opnd s (C.ty t) x = some u → ∀ i ∈ u.ids, σ' i = σ i := hi (l := x :: (lo.toList ++ hh.toList ++ mx.toList)) (by rw [hop]; rfl) (x := x) (by simp)
    simp only [evalOp, hop, opnd_congr he (x := x) (by simp), optOpnd_congr he (x := lo) (fun y hy => by simp [Option.mem_def.1 hy]), optOpnd_congr he (x := hh) (fun y hy => by simp [Option.mem_def.1 hy]),
      optOpnd_congr he (x := mx) (fun y hy => by simp [Option.mem_def.1 hy])]
    generalize h : opnd s (C.ty t) x = X
    generalize optOpnd s lo = A
    generalize optOpnd s hh = B
    generalize optOpnd s mx = D
    have hm : ∀ {u : T} {i : Nat}, X = some u → i ∈ u.ids → σ' i = σ i := fun e hi => hx (h.trans e) _ hi
    split <;> first | rfl | (have this := hm rfl (List.mem_singleton.2 rfl); simp only [shapeP, this])
  | fieldAddr t x j =>
    have he := hop ▸ hE
    simp only [opsOf] at he
    have hx : ∀ {u : T}, opnd s (none) x = some u → ∀ i ∈ u.ids, σ' i = σ i := hi (l := [x]) (by rw [hop]; rfl) (x := x) (by simp)
    simp only [evalOp, hop, opnd_congr he (x := x) (by simp)]
    cases h : opnd s none x with
    | none => rfl
    | some u =>
      cases u with
      | ptr id p =>
        have := hx h id (by simp [T.ids])
        simp only [shapeP, this]
      | _ => rfl
  | field t x j =>
    have he := hop ▸ hE
    simp only [opsOf] at he
    simp only [evalOp, hop, opnd_congr he (x := x) (by simp)]
  | indexAddr t x i =>
    have he := hop ▸ hE
    simp only [opsOf] at he
    have hx : ∀ {u : T}, opnd s (none) x = some u → ∀ i ∈ u.ids, σ' i = σ i := hi (l := [x, i]) (by rw [hop]; rfl) (x := x) (by simp)
    simp only [evalOp, hop, opnd_congr he (x := x) (by simp), opnd_congr he (x := i) (by simp)]
    generalize h : opnd s none x = X
    generalize opnd s none i = A
    have hm : ∀ {u : T} {i : Nat}, X = some u → i ∈ u.ids → σ' i = σ i := fun e hi => hx (h.trans e) _ hi
    split <;> first | rfl | (have this := hm rfl (List.mem_singleton.2 rfl); simp only [shapeP, this])
  | index t x i =>
    have he := hop ▸ hE
    simp only [opsOf] at he
    simp only [evalOp, hop, opnd_congr he (x := x) (by simp), opnd_congr he (x := i) (by simp)]
  | extract x j =>
    have he := hop ▸ hE
    simp only [opsOf] at he
    simp only [evalOp, hop, opnd_congr he (x := x) (by simp)]
  | makeFunc f fst caps =>
    have he := hop ▸ hE
    simp only [opsOf] at he
    cases f with
    | func g =>
      simp only [evalOp, hop]
      cases hf : fst.toList with
      | nil =>
        simp only []
        rw [chainT_congr he fun x hx => List.mem_append_right _ hx]
      | cons x xs =>
        simp only []
        cases hcs : caps.toList with
        | nil => simp only []; rw [chainT_congr he fun y hy => List.mem_append_left _ (by rw [hf]; exact hy)]
        | cons y ys => rfl
    | _ => simp only [evalOp, hop]
  | makeSlice t x y =>
    have he := hop ▸ hE
    simp only [opsOf] at he
    simp only [evalOp, hop, opnd_congr he (x := x) (by simp), opnd_congr he (x := y) (by simp)]
  | makeMap t rs => cases rs <;> simp only [evalOp, hop]
  | lookup t x i ok =>
    have he := hop ▸ hE
    simp only [opsOf] at he
    have hx : ∀ {u : T}, opnd s (none) x = some u → ∀ i ∈ u.ids, σ' i = σ i := hi (l := [x, i]) (by rw [hop]; rfl) (x := x) (by simp)
    simp only [evalOp, hop, opnd_congr he (x := x) (by simp), opnd_congr he (x := i) (by simp)]
    cases C.mp t with
    | none => rfl
    | some kv =>
    cases h : opnd s none x with
    | none => rfl
    | some u =>
      cases u with
      | mapr id =>
        have := hx h id (by simp [T.ids])
        cases opnd s none i with
        | none => rfl
        | some v => simp only [this]
      | nilr q => rcases q with _ | _ | q <;> (cases opnd s none i <;> rfl)
      | _ => rfl
  | mapUpdate t x i z =>
    have he := hop ▸ hE
    simp only [opsOf] at he
    have hx : ∀ {u : T}, opnd s (none) x = some u → ∀ i ∈ u.ids, σ' i = σ i := hi (l := [x, i, z]) (by rw [hop]; rfl) (x := x) (by simp)
    simp only [evalOp, hop, opnd_congr he (x := x) (by simp), opnd_congr he (x := i) (by simp), opnd_congr he (x := z) (by simp)]
    cases C.mp t with
    | none => rfl
    | some kv =>
    cases h : opnd s none x with
    | none => rfl
    | some u =>
      cases u with
      | mapr id =>
        have := hx h id (by simp [T.ids])
        cases opnd s none i with
        | none => rfl
        | some v =>
          cases opnd s none z with
          | none => rfl
          | some q => simp only [this]
      | _ => rfl
  | call c =>
    have he := hop ▸ hE
    have hcl := hcl (by rw [hop]; rfl)
    cases hca : c.callee with
    | invoke x n => simp only [evalOp, hop, hca]
    | builtin b =>
      have eo : opsOf (.call c) = c.args.toList := by simp only [opsOf, hca, List.nil_append]
      rw [eo] at he
      have one : ∀ {x : Operand}, c.args.toList = [x] → opnd s' none x = opnd s none x ∧ ∀ {u : T}, opnd s none x = some u → ∀ i ∈ u.ids, σ' i = σ i := fun ha =>
        ⟨opnd_congr he (by rw [ha]; simp) _, hi (l := c.args.toList) (by rw [hop]; exact eo) (by rw [ha]; simp)⟩
      have two : ∀ {x y : Operand}, c.args.toList = [x, y] → (∀ k, opnd s' k x = opnd s k x) ∧ (∀ k, opnd s' k y = opnd s k y) ∧ (∀ {k : Option K} {u : T}, opnd s k x = some u → ∀ i ∈ u.ids, σ' i = σ i) ∧ (∀ {k : Option K} {u : T}, opnd s k y = some u → ∀ i ∈ u.ids, σ' i = σ i) := fun ha =>
        ⟨fun k => opnd_congr he (by rw [ha]; simp) _, fun k => opnd_congr he (by rw [ha]; simp) _, hi (l := c.args.toList) (by rw [hop]; exact eo) (by rw [ha]; simp), hi (l := c.args.toList) (by rw [hop]; exact eo) (by rw [ha]; simp)⟩
      simp only [evalOp, hop, hca]
      cases ha : c.args.toList with
      | nil => cases b <;> rfl
      | cons x r =>
        cases r with
        | nil =>
          cases b <;> first | rfl | skip
          obtain ⟨h1, h2⟩ := one ha
          simp only [h1]
          generalize h : opnd s none x = X at h2
          have hm : ∀ {u : T} {i : Nat}, X = some u → i ∈ u.ids → σ' i = σ i := fun e hi => h2 e _ hi
          split <;> first | rfl | (have this := hm rfl (List.mem_singleton.2 rfl); simp only [this])
        | cons y r =>
          cases r with
          | cons z r => cases b <;> rfl
          | nil =>
            obtain ⟨h1, h2, h3, h4⟩ := two ha
            cases b <;> first | rfl | skip
            · simp only [h1, h2]
              cases tyArg C c 0 with
              | none => rfl
              | some kk =>
                cases kk with
                | slice e =>
                  simp only []
                  cases hy : opnd s (C.ty o.type) y with
                  | none => rfl
                  | some ty =>
                    simp only [freeze_congr (h4 hy)]
                    cases hx : opnd s (C.ty o.type) x with
                    | none => rfl
                    | some u =>
                      cases u with
                      | row id => simp only [h3 hx id (by simp [T.ids])]
                      | _ => rfl
                | _ => rfl
            · simp only [h1, h2]
              cases c.argTypes.toList with
              | nil => rfl
              | cons t ts =>
                simp only []
                cases C.mp t with
                | none => rfl
                | some kv =>
                  cases hx : opnd s none x with
                  | none => rfl
                  | some u =>
                    cases u with
                    | mapr id =>
                      have := h3 hx id (by simp [T.ids])
                      cases opnd s none y with
                      | none => rfl
                      | some v => simp only [this]
                    | _ => rfl
            · simp only [h1, h2]
            · simp only [h1, h2]
    | value f =>
      have eo : opsOf (.call c) = f :: c.args.toList := by simp only [opsOf, hca, List.singleton_append]
      rw [eo] at he
      simp only [evalOp, hop, hca, opnd_congr he (x := f) (by simp)]
      cases h : opnd s none f with
      | none => rfl
      | some u =>
        cases u with
        | clo g caps =>
          simp only []
          rw [chainT_congr he fun x hx => List.mem_cons_of_mem _ hx]
          cases hq : chainT s (c.argTypes.toList.map C.ty) c.args.toList with
          | none => rfl
          | some args =>
            simp only []
            cases hb : Nat.blt g cloB with
            | false =>
              simp only [cond_false]
              cases hch : caps.isChain with
              | false => rfl
              | true =>
                simp only [cond_true]
                refine callsK_congr (Q := fun i => i ∈ rd) hσ (fun id c fz t q => hcl id c fz t q) fun i hm => ?_
                rcases app_ids hch i hm with q | q
                · exact hrd i (by rw [hop]; show i ∈ idsOf s (opsOf (.call c)); rw [eo]; exact opnd_ids (List.mem_cons_self) h i q)
                · exact hrd i (by rw [hop]; show i ∈ idsOf s (opsOf (.call c)); rw [eo]; exact chainT_ids0 (l := f :: c.args.toList) (fun x hx => List.mem_cons_of_mem _ hx) hq i q)
            | true =>
            simp only [cond_true]
            refine callsK_congr (Q := fun i => i ∈ rd) hσ (fun id c fz t q => hcl id c fz t q) fun i hm => ?_
            rcases chainT_ids (l := f :: c.args.toList) (fun x hx => List.mem_cons_of_mem _ hx) hq i hm with q | q
            · exact hrd i (by rw [hop]; show i ∈ idsOf s (opsOf (.call c)); rw [eo]; exact q)
            · exact hrd i (by rw [hop]; show i ∈ idsOf s (opsOf (.call c)); rw [eo]; exact opnd_ids (List.mem_cons_self) h i q)
        | _ => rfl
  | _ => simp only [evalOp, hop]
end
end Go.Proofs.D
