/- Regions whose order is drawn: whatever order comes, it ends as the text's order does. -/
import Derived.Test.YtmmhjcimijfipaaGreatDReg
set_option linter.unusedVariables false
set_option linter.unusedSimpArgs false
namespace Go.Proofs.D
open Go.RowKit

theorem lookOps_sub {op : Op} {x : Operand} (h : x ∈ lookOps op) : x ∈ opsOf op := by
  cases op <;> first | exact h | cases h

/-- What an operation did. -/
structure Rec where
  o : Oper
  ran : Bool
  t : T
  u : Ups
  rd : List Nat

def dnOf (o : Oper) : Nat := match o.dst with | some d => d | none => 0

def Rec.app (r : Rec) (s : St) : St :=
  { env := putE r.o.dst r.t s.env, sto := upds r.u s.sto, done := bif r.ran && makes r.o.op then (fun x => Nat.beq x (dnOf r.o) || s.done x) else s.done }

def Ran (C : Ctx) (all : List Oper) (r : Rec) (s : St) : Prop :=
  GuardSt all r.o s.env r.ran ∧
  (r.ran = true → stepOk C r.o s = true ∧ Gives C r.o s.env s.sto r.t r.u ∧ (∀ i ∈ idsOf s.env (lookOps r.o.op), i ∈ r.rd) ∧
    (isCall r.o.op = true → ∀ id c fz t, id ∈ r.rd → s.sto id = some (.cell c fz t) → ∀ i ∈ t.ids, i ∈ r.rd)) ∧
  (r.ran = false → r.t = .und ∧ r.u = [])

/-- Neither touches what the other one looks at or turns. -/
def Far (a b : Rec) : Prop := (∀ x ∈ upIds a.u, x ∉ upIds b.u ∧ x ∉ b.rd) ∧ ∀ x ∈ a.rd, x ∉ upIds b.u

def Tr (C : Ctx) (all : List Oper) : List (Nat × Oper) → List (Nat × Rec) → St → List Rec → Prop
  | [], _, _, [] => True
  | (i, o) :: l, lg, s, r :: rs => r.o = o ∧ Ran C all r s ∧ (∀ g ∈ lg, Far r g.2 ∨ anc all 40 g.1 i = true) ∧ Tr C all l ((i, r) :: lg) (r.app s) rs
  | _, _, _, _ => False

def apps : List Rec → St → St | [], s => s | r :: rs, s => apps rs (r.app s)

section
variable {C : Ctx} {R : Type} {all : List Oper}

theorem elemN_iff {a : Nat} : ∀ {l : List Nat}, elemN a l = true ↔ a ∈ l
  | [] => by simp [elemN]
  | b :: l => by simp [elemN, elemN_iff (l := l)]
theorem subN_iff {b : List Nat} : ∀ {a : List Nat}, subN a b = true ↔ ∀ x ∈ a, x ∈ b
  | [] => by simp [subN]
  | x :: a => by simp [subN, subN_iff (a := a), elemN_iff]
theorem disjN_iff {b : List Nat} : ∀ {a : List Nat}, disjN a b = true ↔ ∀ x ∈ a, x ∉ b
  | [] => by simp [disjN]
  | x :: a => by
    simp only [disjN, Bool.and_eq_true, Bool.not_eq_true', disjN_iff (a := a), List.mem_cons, forall_eq_or_imp]
    rw [← elemN_iff]; simp
theorem forceL_eq {X : Type} : ∀ (l : List Nat) (k : List Nat → X), forceL l k = k l
  | [], _ => rfl
  | a :: l, k => by simp only [forceL]; exact forceL_eq l _
theorem close_sub {σ : Sto} : ∀ (n : Nat) (l : List Nat), ∀ x ∈ l, x ∈ close σ n l
  | 0, l, x, h => h
  | n + 1, l, x, h => by
    simp only [close]
    cases subN (objsIds σ l) l with
    | true => exact h
    | false => exact close_sub n _ x (List.mem_append_left _ h)
theorem objsIds_mem {σ : Sto} {i : Nat} : ∀ {l : List Nat} {id : Nat}, id ∈ l → i ∈ objIds σ id → i ∈ objsIds σ l
  | [], _, h, _ => by cases h
  | a :: l, id, h, hi => by
    simp only [objsIds]
    rcases List.mem_cons.1 h with e | e
    · subst e; exact List.mem_append_left _ hi
    · exact List.mem_append_right _ (objsIds_mem e hi)
theorem noIds_iff {a b : List Nat} (h : noIds a b = true) : a = [] ∧ b = [] := by
  cases a <;> cases b <;> simp [noIds] at h ⊢
theorem fineAll_mem {f : Foot} : ∀ {l : List Foot}, fineAll all f l = true → ∀ g ∈ l, f.fine all g = true
  | [], _, g, h => by cases h
  | x :: l, h, g, hg => by
    simp only [fineAll, Bool.and_eq_true] at h
    rcases List.mem_cons.1 hg with e | e
    · subst e; exact h.1
    · exact fineAll_mem h.2 g e
theorem upIds_iff {i : Nat} : ∀ {u : Ups}, i ∈ upIds u ↔ ∃ o, (i, o) ∈ u
  | [] => by simp [upIds]
  | (j, p) :: u => by
    simp only [upIds, List.mem_cons, upIds_iff (u := u)]
    constructor
    · rintro (e | ⟨o, h⟩)
      · subst e; exact ⟨p, .inl rfl⟩
      · exact ⟨o, .inr h⟩
    · rintro ⟨o, h | h⟩
      · cases h; exact .inl rfl
      · exact .inr ⟨o, h⟩

theorem evalDraw_tr : ∀ {l : List (Nat × Oper)} {lg : List Foot} {my : List (Nat × Rec)} {s : St} {k : St → Option R} {x : R},
    (∀ g ∈ my, (g.2.rd = [] ∧ upIds g.2.u = []) ∨ ({ i := g.1, rd := g.2.rd, wr := upIds g.2.u } : Foot) ∈ lg) → evalDraw C all l lg s k = some x → ∃ rs, Tr C all l my s rs ∧ k (apps rs s) = some x
  | [], lg, my, s, k, x, _, he => ⟨[], trivial, he⟩
  | (i, o) :: l, lg, my, s, k, x, hm, he => by
    simp only [evalDraw] at he
    rcases guardK_inv he with ⟨hg, he⟩ | ⟨hg, he⟩
    · obtain ⟨hst, he⟩ := bif_some he
      obtain ⟨t, u, hgi, he⟩ := evalOp_gives he
      simp only [forceL_eq] at he
      have happ : ({ o, ran := true, t, u, rd := readIds o s.env s.sto } : Rec).app s = s.step o t u := by
        unfold Rec.app
        simp only [Bool.true_and]
        rw [← step_env o t u]
        rfl
      have hids : ∀ i ∈ idsOf s.env (lookOps o.op), i ∈ readIds o s.env s.sto := fun i hi => by
        unfold readIds
        cases isCall o.op with
        | true => exact close_sub _ _ i hi
        | false => exact hi
      cases hn : noIds (readIds o s.env s.sto) (upIds u) with
      | true =>
        rw [hn] at he
        obtain ⟨n1, n2⟩ := noIds_iff hn
        obtain ⟨rs, h1, h2⟩ := evalDraw_tr (my := (i, { o, ran := true, t, u, rd := readIds o s.env s.sto }) :: my) (fun g hg' => by
          rcases List.mem_cons.1 hg' with e | e
          · subst e; exact .inl ⟨n1, n2⟩
          · exact hm g e) he
        refine ⟨{ o, ran := true, t, u, rd := readIds o s.env s.sto } :: rs, ⟨rfl, ⟨hg, fun _ => ⟨hst, hgi, hids, fun _ id c fz t' hid => ?_⟩, fun q => by cases q⟩, fun g hg' => ?_, by rw [happ]; exact h1⟩, by simp only [apps, happ]; exact h2⟩
        · have hid : id ∈ readIds o s.env s.sto := hid
          rw [n1] at hid; cases hid
        · refine .inl ⟨fun x hx => ?_, fun x hx => ?_⟩
          · have hx : x ∈ upIds u := hx
            rw [n2] at hx; cases hx
          · have hx : x ∈ readIds o s.env s.sto := hx
            rw [n1] at hx; cases hx
      | false =>
        rw [hn] at he
        simp only [cond_false] at he
        obtain ⟨hb, he⟩ := bif_some he
        simp only [Bool.and_eq_true, Bool.or_eq_true, Bool.not_eq_true'] at hb
        obtain ⟨hb1, hb2⟩ := hb
        obtain ⟨rs, h1, h2⟩ := evalDraw_tr (my := (i, { o, ran := true, t, u, rd := readIds o s.env s.sto }) :: my) (fun g hg' => by
          rcases List.mem_cons.1 hg' with e | e
          · subst e; exact .inr List.mem_cons_self
          · exact (hm g e).imp (fun q => q) fun q => List.mem_cons_of_mem _ q) he
        refine ⟨{ o, ran := true, t, u, rd := readIds o s.env s.sto } :: rs, ⟨rfl, ⟨hg, fun _ => ⟨hst, hgi, hids, fun hc id c fz t' hid hs j hj => ?_⟩, fun q => by cases q⟩, fun g hg' => ?_, by rw [happ]; exact h1⟩, by simp only [apps, happ]; exact h2⟩
        · rcases hb1 with q | q
          · have hc : isCall o.op = true := hc
            rw [hc] at q; cases q
          · exact subN_iff.1 q j (objsIds_mem hid (by unfold objIds; rw [hs]; exact hj))
        · rcases hm g hg' with ⟨q1, q2⟩ | q
          · refine .inl ⟨fun x hx => ⟨by rw [q2]; exact List.not_mem_nil, by rw [q1]; exact List.not_mem_nil⟩, fun x hx => by rw [q2]; exact List.not_mem_nil⟩
          · have := fineAll_mem hb2 _ q
            simp only [Foot.fine, Bool.or_eq_true, Bool.and_eq_true, disjN_iff] at this
            rcases this with ⟨⟨f1, f2⟩, f3⟩ | f
            · exact .inl ⟨fun x hx => ⟨f1 x hx, f2 x hx⟩, f3⟩
            · exact .inr f
    · have happ : ({ o, ran := false, t := .und, u := [], rd := [] } : Rec).app s = skip o s := by
        rw [skip_env]; rfl
      obtain ⟨rs, h1, h2⟩ := evalDraw_tr (my := (i, { o, ran := false, t := .und, u := [], rd := [] }) :: my) (fun g hg' => by
        rcases List.mem_cons.1 hg' with e | e
        · subst e; exact .inl ⟨rfl, rfl⟩
        · exact hm g e) he
      refine ⟨{ o, ran := false, t := .und, u := [], rd := [] } :: rs, ⟨rfl, ⟨hg, (fun q => by cases q), fun _ => ⟨rfl, rfl⟩⟩, fun g hg' => ?_, by rw [happ]; exact h1⟩, by simp only [apps, happ]; exact h2⟩
      exact .inl ⟨(fun x hx => by cases hx), (fun x hx => by cases hx)⟩

/-! ### The trace, told by places -/
structure Trace (C : Ctx) (all : List Oper) (k : Nat) (lg : List (Nat × Rec)) (l : List Oper) (s : St) (rs : List Rec) : Prop where
  len : rs.length = l.length
  op : ∀ (j : Nat) (r : Rec), rs[j]? = some r → l[j]? = some r.o
  ran : ∀ (j : Nat) (r : Rec), rs[j]? = some r → Ran C all r (apps (rs.take j) s)
  lg : ∀ g ∈ lg, ∀ (j : Nat) (b : Rec), rs[j]? = some b → Far b g.2 ∨ anc all 40 g.1 (k + j) = true
  pair : ∀ (i j : Nat) (a b : Rec), i < j → rs[i]? = some a → rs[j]? = some b → Far b a ∨ anc all 40 (k + i) (k + j) = true

theorem Tr.trace : ∀ {l : List Oper} {k : Nat} {lg : List (Nat × Rec)} {s : St} {rs : List Rec}, Tr C all (numbered k l) lg s rs → Trace C all k lg l s rs
  | [], k, lg, s, [], _ => ⟨rfl, fun j r h => by simp at h, fun j r h => by simp at h, fun g _ j b h => by simp at h, fun i j a b _ h => by simp at h⟩
  | [], k, lg, s, r :: rs, h => h.elim
  | o :: l, k, lg, s, [], h => h.elim
  | o :: l, k, lg, s, r :: rs, ⟨h1, h2, h3, h4⟩ => by
    have ih := Tr.trace h4
    refine ⟨by simp [ih.len], fun j r' h => ?_, fun j r' h => ?_, fun g hg j b h => ?_, fun i j a b hij ha hb => ?_⟩
    · cases j with
      | zero => simp at h; subst h; simp [h1]
      | succ j => simpa using ih.op j r' (by simpa using h)
    · cases j with
      | zero => simp at h; subst h; exact h2
      | succ j => exact ih.ran j r' (by simpa using h)
    · cases j with
      | zero => simp at h; subst h; exact h3 g hg
      | succ j => rw [show k + (j + 1) = k + 1 + j by omega]; exact ih.lg g (List.mem_cons_of_mem _ hg) j b (by simpa using h)
    · cases j with
      | zero => omega
      | succ j =>
        have hb : rs[j]? = some b := by simpa using hb
        cases i with
        | zero =>
          simp at ha; subst ha
          rw [show k + (j + 1) = k + 1 + j by omega]
          exact ih.lg (k, r) List.mem_cons_self j b hb
        | succ i =>
          rw [show k + (j + 1) = k + 1 + j by omega, show k + (i + 1) = k + 1 + i by omega]
          exact ih.pair i j a b (by omega) (by simpa using ha) hb

/-! ### Some of the operations, in the text's order -/
def replay : List Rec → (Nat → Bool) → Nat → St → St
  | [], _, _, s => s
  | r :: rs, A, k, s => replay rs A (k + 1) (bif A k then r.app s else s)

theorem putE_ne {d : Option Nat} {t : T} {s : Nat → T} {x : Nat} (h : d ≠ some x) : putE d t s x = s x := by
  unfold putE
  cases d with
  | none => rfl
  | some d =>
    show (bif Nat.beq x d then t else s x) = s x
    have : Nat.beq x d = false := by cases hb : Nat.beq x d with
      | false => rfl
      | true => exact absurd (by rw [Nat.eq_of_beq_eq_true hb]) h
    rw [this]; rfl
theorem putE_eq {t : T} {s : Nat → T} {x : Nat} : putE (some x) t s x = t := by simp [putE]

theorem replay_env {x : Nat} {A B : Nat → Bool} : ∀ {rs : List Rec} {k : Nat} {s s' : St}, s.env x = s'.env x → (∀ j r, rs[j]? = some r → r.o.dst = some x → A (k + j) = B (k + j)) → (replay rs A k s).env x = (replay rs B k s').env x
  | [], k, s, s', h, _ => h
  | r :: rs, k, s, s', h, hr => by
    simp only [replay]
    refine replay_env ?_ fun j r' hj hd => by have := hr (j + 1) r' (by simpa using hj) hd; rwa [show k + (j + 1) = k + 1 + j by omega] at this
    by_cases hd : r.o.dst = some x
    · have := hr 0 r rfl hd
      rw [Nat.add_zero] at this
      rw [this]
      cases B k with
      | false => exact h
      | true => show putE r.o.dst r.t s.env x = putE r.o.dst r.t s'.env x; rw [hd, putE_eq, putE_eq]
    · have e : ∀ (b : Bool) (s : St), (bif b then r.app s else s).env x = s.env x := fun b s => by cases b with
        | false => rfl
        | true => exact putE_ne hd
      rw [e, e]; exact h

theorem replay_sto {x : Nat} {A B : Nat → Bool} : ∀ {rs : List Rec} {k : Nat} {s s' : St}, s.sto x = s'.sto x → (∀ j r, rs[j]? = some r → x ∈ upIds r.u → A (k + j) = B (k + j)) → (replay rs A k s).sto x = (replay rs B k s').sto x
  | [], k, s, s', h, _ => h
  | r :: rs, k, s, s', h, hr => by
    simp only [replay]
    refine replay_sto ?_ fun j r' hj hd => by have := hr (j + 1) r' (by simpa using hj) hd; rwa [show k + (j + 1) = k + 1 + j by omega] at this
    by_cases hd : x ∈ upIds r.u
    · have := hr 0 r rfl hd
      rw [Nat.add_zero] at this
      rw [this]
      cases B k with
      | false => exact h
      | true => exact upds_at h
    · have e : ∀ (b : Bool) (s : St), (bif b then r.app s else s).sto x = s.sto x := fun b s => by cases b with
        | false => rfl
        | true => exact upds_none fun o q => hd (upIds_iff.2 ⟨o, q⟩)
      rw [e, e]; exact h

theorem app_done {r : Rec} {s : St} {x : Nat} : (r.app s).done x = true ↔ s.done x = true ∨ (r.ran = true ∧ makes r.o.op = true ∧ dnOf r.o = x) := by
  unfold Rec.app
  cases h : (r.ran && makes r.o.op) with
  | false =>
    simp only [cond_false]
    constructor
    · exact .inl
    · rintro (q | ⟨q1, q2, _⟩)
      · exact q
      · simp [q1, q2] at h
  | true =>
    simp only [Bool.and_eq_true] at h
    simp only [cond_true, Bool.or_eq_true]
    constructor
    · rintro (q | q)
      · exact .inr ⟨h.1, h.2, (Nat.eq_of_beq_eq_true q).symm⟩
      · exact .inl q
    · rintro (q | ⟨_, _, q⟩)
      · exact .inr q
      · subst q; left; simp

theorem replay_done {x : Nat} {A : Nat → Bool} : ∀ {rs : List Rec} {k : Nat} {s : St}, (replay rs A k s).done x = true ↔ s.done x = true ∨ ∃ j r, rs[j]? = some r ∧ A (k + j) = true ∧ r.ran = true ∧ makes r.o.op = true ∧ dnOf r.o = x
  | [], k, s => by simp [replay]
  | r :: rs, k, s => by
    simp only [replay]
    rw [replay_done]
    constructor
    · rintro (h | ⟨j, r', h1, h2, h3⟩)
      · cases hA : A k with
        | false => rw [hA] at h; exact .inl h
        | true =>
          rw [hA] at h
          rcases app_done.1 h with q | ⟨q1, q2, q3⟩
          · exact .inl q
          · exact .inr ⟨0, r, rfl, hA, q1, q2, q3⟩
      · exact .inr ⟨j + 1, r', by simpa using h1, by rw [show k + (j + 1) = k + 1 + j by omega]; exact h2, h3⟩
    · rintro (h | ⟨j, r', h1, h2, h3, h4, h5⟩)
      · left
        cases A k with
        | false => exact h
        | true => exact app_done.2 (.inl h)
      · cases j with
        | zero =>
          simp at h1; subst h1
          rw [Nat.add_zero] at h2
          left; rw [h2]; exact app_done.2 (.inr ⟨h3, h4, h5⟩)
        | succ j => exact .inr ⟨j, r', by simpa using h1, by rw [show k + 1 + j = k + (j + 1) by omega]; exact h2, h3, h4, h5⟩

/-- What comes last stays. -/
theorem replay_env_last {x : Nat} {A : Nat → Bool} : ∀ {rs : List Rec} {k i : Nat} {s : St} {r : Rec}, rs[i]? = some r → A (k + i) = true → r.o.dst = some x → (∀ j b, i < j → rs[j]? = some b → A (k + j) = true → b.o.dst ≠ some x) →
    (replay rs A k s).env x = r.t
  | [], k, i, s, r, h, _, _, _ => by simp at h
  | q :: rs, k, 0, s, r, h, hA, hd, hl => by
    simp at h; subst h
    rw [Nat.add_zero] at hA
    simp only [replay, hA, cond_true]
    have : (replay rs A (k + 1) (q.app s)).env x = (replay rs (fun _ => false) (k + 1) (q.app s)).env x := replay_env rfl fun j b hb hd' => by
      cases hq : A (k + 1 + j) with
      | false => rfl
      | true => exact absurd hd' (hl (j + 1) b (by omega) (by simpa using hb) (by rw [show k + (j + 1) = k + 1 + j by omega]; exact hq))
    rw [this]
    have e : ∀ (rs : List Rec) (k : Nat) (s : St), replay rs (fun _ => false) k s = s := by
      intro rs
      induction rs with
      | nil => intro k s; rfl
      | cons a rs ih => intro k s; exact ih _ _
    rw [e]
    show putE q.o.dst q.t s.env x = q.t
    rw [hd, putE_eq]
  | q :: rs, k, i + 1, s, r, h, hA, hd, hl => by
    simp only [replay]
    exact replay_env_last (i := i) (by simpa using h) (by rw [show k + 1 + i = k + (i + 1) by omega]; exact hA) hd fun j b hj hb hAj => hl (j + 1) b (by omega) (by simpa using hb) (by rw [show k + (j + 1) = k + 1 + j by omega]; exact hAj)

theorem replay_sto_last {x : Nat} {A : Nat → Bool} : ∀ {rs : List Rec} {k i : Nat} {s τ : St} {r : Rec}, rs[i]? = some r → A (k + i) = true → x ∈ upIds r.u → (∀ j b, i < j → rs[j]? = some b → A (k + j) = true → x ∉ upIds b.u) →
    (replay rs A k s).sto x = upds r.u τ.sto x
  | [], k, i, s, τ, r, h, _, _, _ => by simp at h
  | q :: rs, k, 0, s, τ, r, h, hA, hd, hl => by
    simp at h; subst h
    rw [Nat.add_zero] at hA
    simp only [replay, hA, cond_true]
    have : (replay rs A (k + 1) (q.app s)).sto x = (replay rs (fun _ => false) (k + 1) (q.app s)).sto x := replay_sto rfl fun j b hb hd' => by
      cases hq : A (k + 1 + j) with
      | false => rfl
      | true => exact absurd hd' (hl (j + 1) b (by omega) (by simpa using hb) (by rw [show k + (j + 1) = k + 1 + j by omega]; exact hq))
    rw [this]
    have e : ∀ (rs : List Rec) (k : Nat) (s : St), replay rs (fun _ => false) k s = s := by
      intro rs
      induction rs with
      | nil => intro k s; rfl
      | cons a rs ih => intro k s; exact ih _ _
    rw [e]
    show upds q.u s.sto x = upds q.u τ.sto x
    obtain ⟨o, _, h2⟩ := upds_mem (upIds_iff.1 hd)
    rw [h2, h2]
  | q :: rs, k, i + 1, s, τ, r, h, hA, hd, hl => by
    simp only [replay]
    exact replay_sto_last (i := i) (by simpa using h) (by rw [show k + 1 + i = k + (i + 1) by omega]; exact hA) hd fun j b hj hb hAj => hl (j + 1) b (by omega) (by simpa using hb) (by rw [show k + (j + 1) = k + 1 + j by omega]; exact hAj)

theorem replay_congr {A B : Nat → Bool} : ∀ {rs : List Rec} {k : Nat} {s : St}, (∀ j, j < rs.length → A (k + j) = B (k + j)) → replay rs A k s = replay rs B k s
  | [], _, _, _ => rfl
  | r :: rs, k, s, h => by
    simp only [replay]
    have := h 0 (by simp)
    rw [Nat.add_zero] at this
    rw [this]
    exact replay_congr fun j hj => by have := h (j + 1) (by simpa using hj); rwa [show k + (j + 1) = k + 1 + j by omega] at this

theorem replay_take : ∀ {rs : List Rec} {k i : Nat} {s : St}, replay rs (fun j => Nat.blt j (k + i)) k s = apps (rs.take i) s
  | [], k, i, s => by simp [replay, apps]
  | r :: rs, k, 0, s => by
    have e : ∀ (rs : List Rec) (k k' : Nat) (s : St), k ≤ k' → replay rs (fun j => Nat.blt j k) k' s = s := by
      intro rs
      induction rs with
      | nil => intro k k' s _; rfl
      | cons a rs ih =>
        intro k k' s h
        have : Nat.blt k' k = false := by cases hb : Nat.blt k' k with
          | false => rfl
          | true => rw [Nat.blt_eq] at hb; omega
        simp only [replay, this, cond_false]
        exact ih _ _ _ (by omega)
    rw [Nat.add_zero, e _ _ _ _ (Nat.le_refl _)]; rfl
  | r :: rs, k, i + 1, s => by
    have : Nat.blt k (k + (i + 1)) = true := by rw [Nat.blt_eq]; omega
    simp only [replay, this, cond_true, List.take_succ_cons, apps]
    rw [show k + (i + 1) = k + 1 + i by omega]
    exact replay_take

theorem replay_all {rs : List Rec} {A : Nat → Bool} {s : St} (h : ∀ j, j < rs.length → A j = true) : replay rs A 0 s = apps rs s := by
  have e := replay_take (rs := rs) (k := 0) (i := rs.length) (s := s)
  rw [List.take_length] at e
  rw [← e]
  exact replay_congr fun j hj => by
    have : Nat.blt (0 + j) (0 + rs.length) = true := by rw [Nat.blt_eq]; omega
    rw [this, Nat.zero_add, h j hj]

/-! ### What the region's edges say -/
theorem pairsOk_get : ∀ {l : List Oper} {k : Nat}, pairsOk all (numbered k l) = true →
    (∀ i o, l[i]? = some o → ∀ e ∈ aftOf o.after.toList, e < k + i) ∧ ∀ i j a b, i < j → l[i]? = some a → l[j]? = some b → apartL all a b = true ∨ anc all 40 (k + i) (k + j) = true
  | [], k, _ => ⟨fun i o h => by simp at h, fun i j a b _ h => by simp at h⟩
  | o :: l, k, h => by
    simp only [numbered, pairsOk, Bool.and_eq_true] at h
    obtain ⟨⟨h1, h2⟩, h3⟩ := h
    obtain ⟨k1, k2⟩ := pairsOk_get h3
    have below : ∀ (l : List Nat), allBelow k l = true → ∀ e ∈ l, e < k := by
      intro l
      induction l with
      | nil => intro _ e he; cases he
      | cons a l ih =>
        intro h e he
        simp only [allBelow, Bool.and_eq_true, Nat.blt_eq] at h
        rcases List.mem_cons.1 he with q | q
        · subst q; exact h.1
        · exact ih h.2 e q
    have ap : ∀ (l : List Oper) (n : Nat), apartAll all k o (numbered n l) = true → ∀ j b, l[j]? = some b → apartL all o b = true ∨ anc all 40 k (n + j) = true := by
      intro l
      induction l with
      | nil => intro n _ j b hb; simp at hb
      | cons a l ih =>
        intro n h j b hb
        simp only [numbered, apartAll, Bool.and_eq_true, Bool.or_eq_true] at h
        cases j with
        | zero => simp at hb; subst hb; exact h.1
        | succ j => rw [show n + (j + 1) = n + 1 + j by omega]; exact ih (n + 1) h.2 j b (by simpa using hb)
    refine ⟨fun i o' ho e he => ?_, fun i j a b hij ha hb => ?_⟩
    · cases i with
      | zero => simp at ho; subst ho; exact below _ h1 e he
      | succ i => have := k1 i o' (by simpa using ho) e he; omega
    · cases j with
      | zero => omega
      | succ j =>
        rw [show k + (j + 1) = k + 1 + j by omega]
        cases i with
        | zero => simp at ha; subst ha; exact ap l (k + 1) h2 j b (by simpa using hb)
        | succ i => rw [show k + (i + 1) = k + 1 + i by omega]; exact k2 i j a b (by omega) (by simpa using ha) (by simpa using hb)

/-- What comes behind something that is in it, has that in it, too. -/
def Closed (all : List Oper) (A : Nat → Bool) : Prop := ∀ j o, all[j]? = some o → A j = true → ∀ e ∈ aftOf o.after.toList, A e = true

theorem anc_closed {A : Nat → Bool} (hA : Closed all A) : ∀ {n i j : Nat}, anc all n i j = true → (∀ o, all[j]? = some o → ∀ e ∈ aftOf o.after.toList, A e = true) → A i = true
  | 0, i, j, h, _ => by simp [anc] at h
  | n + 1, i, j, h, ha => by
    simp only [anc] at h
    split at h
    · cases h
    · rename_i o ho
      have key : ∀ (l : List Nat), anc.ancs (anc all n) i l = true → (∀ e ∈ l, A e = true) → A i = true := by
        intro l
        induction l with
        | nil => intro h _; simp [anc.ancs] at h
        | cons e l ih =>
          intro h hl
          simp only [anc.ancs, Bool.or_eq_true, Bool.and_eq_true] at h
          rcases h with (h | ⟨_, h⟩) | h
          · rw [← Nat.eq_of_beq_eq_true h]; exact hl e List.mem_cons_self
          · exact anc_closed hA h fun o' ho' e' he' => hA e o' ho' (hl e List.mem_cons_self) e' he'
          · exact ih h fun e' he' => hl e' (List.mem_cons_of_mem _ he')
      exact key _ h (ha o ho)

theorem tmpsOf_mem {t : Nat} : ∀ {l : List Operand}, Operand.tmp t ∈ l → t ∈ tmpsOf l
  | [], h => by cases h
  | x :: l, h => by
    rcases List.mem_cons.1 h with e | e
    · subst e; exact List.mem_cons_self
    · have := tmpsOf_mem e
      cases x with
      | tmp u => exact List.mem_cons_of_mem _ this
      | _ => exact this

theorem apartL_get {a b : Oper} (h : apartL all a b = true) : (∀ d, a.dst = some d → d ∉ looksL all b) ∧ (∀ d, a.dst = some d → b.dst ≠ some d) ∧ ∀ d, b.dst = some d → d ∉ looksL all a := by
  simp only [apartL, Bool.and_eq_true, Bool.not_eq_true'] at h
  obtain ⟨⟨h1, h2⟩, h3⟩ := h
  refine ⟨fun d hd q => ?_, fun d hd q => ?_, fun d hd q => ?_⟩
  · rw [hd] at h1; simp only [dstIn] at h1; rw [elemN_iff.2 q] at h1; cases h1
  · rw [hd, q] at h2; simp [dstEq] at h2
  · rw [hd] at h3; simp only [dstIn] at h3; rw [elemN_iff.2 q] at h3; cases h3

theorem guardT_mem {o : Oper} {j d : Nat} {want : Bool} (hg : o.guard = some (j, want)) (hd : (all[j]?).bind (·.dst) = some d) : d ∈ looksL all o := by
  unfold looksL guardT
  rw [hg]
  cases hq : all[j]? with
  | none => rw [hq] at hd; cases hd
  | some g =>
    rw [hq] at hd
    have hd : g.dst = some d := hd
    simp [hq, hd]

theorem GuardSt.congr {o : Oper} {s s' : Nat → T} {b : Bool} (h : GuardSt all o s b) (he : ∀ d ∈ looksL all o, s' d = s d) : GuardSt all o s' b := by
  unfold GuardSt at *
  split at h
  · exact h
  · rename_i j want hg
    obtain ⟨d, hd, h⟩ := h
    exact ⟨d, hd, by rw [he d (guardT_mem hg hd)]; exact h⟩

/-- **An operation that may come up yields what it did in the text's order.** -/
theorem draw_step {s : St} {rs : List Rec} (ht : Trace C all 0 [] all s rs) (hp : pairsOk all (numbered 0 all) = true) {A : Nat → Bool} (hcl : Closed all A) {i : Nat} {r : Rec} (hi : rs[i]? = some r) (hA : A i = false)
    (haft : ∀ e ∈ aftOf r.o.after.toList, A e = true) : Ran C all r (replay rs A 0 s) ∧ replay rs (fun j => A j || Nat.beq j i) 0 s = r.app (replay rs A 0 s) := by
  obtain ⟨p1, p2⟩ := pairsOk_get hp
  have hoi := ht.op i r hi
  have later : ∀ j b, i < j → rs[j]? = some b → A j = true → apartL all r.o b.o = true ∧ Far b r := by
    intro j b hij hb hAj
    have hno : anc all 40 (0 + i) (0 + j) = true → False := fun q => by
      rw [Nat.zero_add, Nat.zero_add] at q
      have := anc_closed hcl q fun o ho e he => hcl j o ho hAj e he
      rw [hA] at this; cases this
    exact ⟨(p2 i j _ _ hij hoi (ht.op j b hb)).resolve_right hno, (ht.pair i j r b hij hi hb).resolve_right hno⟩
  have earlier : ∀ j b, j < i → rs[j]? = some b → A j = false → apartL all b.o r.o = true ∧ Far r b := by
    intro j b hij hb hAj
    have hno : anc all 40 (0 + j) (0 + i) = true → False := fun q => by
      rw [Nat.zero_add, Nat.zero_add] at q
      have := anc_closed hcl q fun o ho e he => by rw [hoi] at ho; cases ho; exact haft e he
      rw [hAj] at this; cases this
    exact ⟨(p2 j i _ _ hij (ht.op j b hb) hoi).resolve_right hno, (ht.pair j i b r hij hb hi).resolve_right hno⟩
  have hsi : apps (rs.take i) s = replay rs (fun j => Nat.blt j i) 0 s := by
    have := replay_take (rs := rs) (k := 0) (i := i) (s := s)
    rw [← this]; simp
  have hran := ht.ran i r hi
  rw [hsi] at hran
  have blt_t : ∀ {j k : Nat}, j < k → Nat.blt j k = true := fun h => by rw [Nat.blt_eq]; exact h
  have blt_f : ∀ {j k : Nat}, k ≤ j → Nat.blt j k = false := fun {j k} h => by
    cases hb : Nat.blt j k with
    | false => rfl
    | true => rw [Nat.blt_eq] at hb; omega
  -- the slots that it looks at
  have henv : ∀ x ∈ looksL all r.o, (replay rs A 0 s).env x = (replay rs (fun j => Nat.blt j i) 0 s).env x := fun x hx => replay_env rfl fun j b hb hd => by
    rw [Nat.zero_add]
    rcases Nat.lt_trichotomy j i with hji | hji | hji
    · rw [blt_t hji]
      cases hq : A j with
      | true => rfl
      | false => exact absurd hx ((apartL_get (earlier j b hji hb hq).1).1 x hd)
    · subst hji; rw [hA, blt_f (Nat.le_refl _)]
    · rw [blt_f (by omega)]
      cases hq : A j with
      | false => rfl
      | true => exact absurd hx ((apartL_get (later j b hji hb hq).1).2.2 x hd)
  have hsto : ∀ x ∈ r.rd, (replay rs A 0 s).sto x = (replay rs (fun j => Nat.blt j i) 0 s).sto x := fun x hx => replay_sto rfl fun j b hb hd => by
    rw [Nat.zero_add]
    rcases Nat.lt_trichotomy j i with hji | hji | hji
    · rw [blt_t hji]
      cases hq : A j with
      | true => rfl
      | false => exact absurd hd ((earlier j b hji hb hq).2.2 x hx)
    · subst hji; rw [hA, blt_f (Nat.le_refl _)]
    · rw [blt_f (by omega)]
      cases hq : A j with
      | false => rfl
      | true => exact absurd hx ((later j b hji hb hq).2.1 x hd).2
  refine ⟨⟨hran.1.congr henv, fun hr => ?_, hran.2.2⟩, ?_⟩
  · obtain ⟨g1, g2, g3, g4⟩ := hran.2.1 hr
    have hop : ∀ t, Operand.tmp t ∈ opsOf r.o.op → (replay rs A 0 s).env t = (replay rs (fun j => Nat.blt j i) 0 s).env t := fun t h => henv t (List.mem_append_left _ (tmpsOf_mem h))
    have hids : ∀ (l : List Operand), (∀ t, Operand.tmp t ∈ l → (replay rs A 0 s).env t = (replay rs (fun j => Nat.blt j i) 0 s).env t) → idsOf (replay rs A 0 s).env l = idsOf (replay rs (fun j => Nat.blt j i) 0 s).env l := by
      intro l
      induction l with
      | nil => intro _; rfl
      | cons x l ih =>
        intro h
        have ih := ih fun t q => h t (List.mem_cons_of_mem _ q)
        cases x with
        | tmp t => simp only [idsOf, h t List.mem_cons_self, ih]
        | _ => exact ih
    refine ⟨?_, fun R κ => ?_, ?_, ?_⟩
    · simp only [stepOk, Bool.and_eq_true, Bool.not_eq_true'] at g1 ⊢
      refine ⟨g1.1, ?_⟩
      cases hm : makes r.o.op with
      | false => rfl
      | true =>
        have g := g1.2
        rw [hm, Bool.true_and] at g
        rw [Bool.true_and]
        have g : (replay rs (fun j => Nat.blt j i) 0 s).done (dnOf r.o) = false := g
        show (replay rs A 0 s).done (dnOf r.o) = false
        cases hq : (replay rs A 0 s).done (dnOf r.o) with
        | false => rfl
        | true =>
          exfalso
          rcases replay_done.1 hq with q | ⟨j, b, q1, q2, q3, q4, q5⟩
          · rw [replay_done.2 (.inl q)] at g; cases g
          · rw [Nat.zero_add] at q2
            rcases Nat.lt_trichotomy j i with hji | hji | hji
            · rw [replay_done.2 (.inr ⟨j, b, q1, by rw [Nat.zero_add]; exact blt_t hji, q3, q4, q5⟩)] at g; cases g
            · subst hji; rw [hA] at q2; cases q2
            · have hb := ht.ran j b q1
              have hsj : apps (rs.take j) s = replay rs (fun k => Nat.blt k j) 0 s := by
                have := replay_take (rs := rs) (k := 0) (i := j) (s := s)
                rw [← this]; simp
              rw [hsj] at hb
              have g' := (hb.2.1 q3).1
              simp only [stepOk, Bool.and_eq_true, Bool.not_eq_true'] at g'
              have g' := g'.2
              rw [q4, Bool.true_and] at g'
              have g' : (replay rs (fun k => Nat.blt k j) 0 s).done (dnOf b.o) = false := g'
              rw [q5, replay_done.2 (.inr ⟨i, r, hi, by rw [Nat.zero_add]; exact blt_t hji, hr, hm, rfl⟩)] at g'
              cases g'
    · rw [← g2 R κ]
      exact evalOp_congr (rd := r.rd) (fun t h => hop t h) hsto g3 fun hc id c fz t h1 h2 => g4 hc id c fz t h1 h2
    · rw [hids _ fun t h => hop t (lookOps_sub h)]; exact g3
    · intro hc id c fz t h1 h2
      rw [hsto id h1] at h2
      exact g4 hc id c fz t h1 h2
  · have hA' : (fun j => A j || Nat.beq j i) (0 + i) = true := by simp
    have same : ∀ j, j ≠ i → (fun j => A j || Nat.beq j i) (0 + j) = A (0 + j) := fun j h => by
      have : Nat.beq (0 + j) i = false := by
        rw [Nat.zero_add]
        cases hb : Nat.beq j i with
        | false => rfl
        | true => exact absurd (Nat.eq_of_beq_eq_true hb) h
      simp only [this, Bool.or_false]
    have ext : ∀ (x y : St), x.env = y.env → x.sto = y.sto → x.done = y.done → x = y := fun x y h1 h2 h3 => by cases x; cases y; simp only at h1 h2 h3; subst h1; subst h2; subst h3; rfl
    refine ext _ _ (funext fun x => ?_) (funext fun x => ?_) (funext fun x => ?_)
    · show _ = putE r.o.dst r.t (replay rs A 0 s).env x
      by_cases hd : r.o.dst = some x
      · rw [replay_env_last hi hA' hd fun j b hj hb hAj hbd => ?_, hd, putE_eq]
        have hAj := (same j (by omega)).symm.trans hAj
        rw [Nat.zero_add] at hAj
        exact (apartL_get (later j b hj hb hAj).1).2.1 x hd hbd
      · rw [putE_ne hd]
        exact replay_env rfl fun j b hb hbd => same j fun e => by subst e; rw [hi] at hb; cases hb; exact hd hbd
    · show _ = upds r.u (replay rs A 0 s).sto x
      by_cases hd : x ∈ upIds r.u
      · exact replay_sto_last (τ := replay rs A 0 s) hi hA' hd fun j b hj hb hAj hbd => by
          have hAj := (same j (by omega)).symm.trans hAj
          rw [Nat.zero_add] at hAj
          exact ((later j b hj hb hAj).2.1 x hbd).1 hd
      · rw [upds_none fun o q => hd (upIds_iff.2 ⟨o, q⟩)]
        exact replay_sto rfl fun j b hb hbd => same j fun e => by subst e; rw [hi] at hb; cases hb; exact hd hbd
    · have : ∀ (p q : Bool), (p = true ↔ q = true) → p = q := fun p q h => by cases p <;> cases q <;> simp at h ⊢
      refine this _ _ ?_
      rw [replay_done, app_done, replay_done]
      constructor
      · rintro (h | ⟨j, b, h1, h2, h3⟩)
        · exact .inl (.inl h)
        · by_cases e : j = i
          · subst e; rw [hi] at h1; cases h1; exact .inr h3
          · exact .inl (.inr ⟨j, b, h1, (same j e).symm.trans h2, h3⟩)
      · rintro ((h | ⟨j, b, h1, h2, h3⟩) | h)
        · exact .inl h
        · exact .inr ⟨j, b, h1, by simp only [h2, Bool.true_or], h3⟩
        · exact .inr ⟨i, r, hi, hA', h⟩
end
end Go.Proofs.D

/- A region does what the evaluator says, whatever order it draws. -/
namespace Go.Proofs.D
open Go.RowKit

section
variable {P : Program} {C : Ctx} {R : Type}

/-- The count of draws is no matter. -/
theorem StoRel.drew {σ : Nat → Option Obj} {w : World} {S : Cells} {m : Nat → Option MB} (h : StoRel σ w S m) (n : Nat) : StoRel σ { w with drawn := n } S m :=
  ⟨fun i o ho => by
    obtain ⟨u, h1, h2⟩ := h.sto i o ho
    exact ⟨u, h1, h2.keep ⟨fun _ _ q => q, fun _ _ _ _ q => q⟩ (fun _ _ q => q) (fun _ _ _ => ⟨rfl, rfl⟩) fun _ => rfl⟩, h.apart, h.stab, h.live⟩

theorem Rel.drew {s : St} {tm : Array Value} {w : World} {S : Cells} {m : Nat → Option MB} (h : Rel s tm w S m) (n : Nat) : Rel s tm { w with drawn := n } S m :=
  ⟨h.toStoRel.drew n, fun t => RepV.keep (w := w) (S := S) (w' := { w with drawn := n }) (S' := S) ⟨fun _ _ q => q, fun _ _ _ _ q => q⟩ (fun _ _ q => q) (h.env t), h.fresh, h.top⟩

theorem Ext.drew (O : Cells) (w : World) (S : Cells) (m : Nat → Option MB) (n : Nat) (h : w.drawn ≤ n) : Ext O w S m { w with drawn := n } S m O :=
  ⟨rfl, ⟨rfl, h⟩, rfl, Nat.le_refl _, fun _ _ h => h, fun _ _ h => h, fun _ _ h => .inl h, fun _ _ h => .inl h, fun _ _ _ _ => ⟨rfl, rfl⟩, fun _ _ _ => rfl⟩

theorem aftOf_mem {p : Nat → Prop} : ∀ {l : List Edge}, (∀ e ∈ l, Region.binds .any e = true → p e.on) → ∀ x ∈ aftOf l, p x
  | [], _, x, hx => by cases hx
  | e :: l, h, x, hx => by
    have ih := aftOf_mem fun e' he => h e' (List.mem_cons_of_mem _ he)
    have hb := h e List.mem_cons_self
    simp only [aftOf] at hx
    split at hx
    · exact ih x hx
    · exact ih x hx
    · rename_i g1 g2
      rcases List.mem_cons.1 hx with q | q
      · subst q
        refine hb ?_
        unfold Region.binds
        split
        · rename_i a q; exact absurd q (g1 a)
        · rename_i a q; exact absurd q (g2 a)
        · rfl
      · exact ih x q

theorem aftOf_of {p : Nat → Prop} : ∀ {l : List Edge}, (∀ x ∈ aftOf l, p x) → ∀ e ∈ l, Region.binds .any e = true → p e.on
  | [], _, e, he, _ => by cases he
  | a :: l, h, e, he, hb => by
    have ih : (∀ x ∈ aftOf l, p x) → ∀ e ∈ l, Region.binds .any e = true → p e.on := aftOf_of
    simp only [aftOf] at h
    rcases List.mem_cons.1 he with q | q
    · subst q
      split at h
      · rename_i g; unfold Region.binds at hb; rw [g] at hb; cases hb
      · rename_i g; unfold Region.binds at hb; rw [g] at hb; cases hb
      · exact h _ List.mem_cons_self
    · split at h
      · exact ih h e q hb
      · exact ih h e q hb
      · exact ih (fun x hx => h x (List.mem_cons_of_mem _ hx)) e q hb

def listA (listed : Array Bool) (j : Nat) : Bool := listed.getD j false

theorem count_false_set {l : List Bool} {i : Nat} (h : l[i]? = some false) : (l.set i true).count false + 1 = l.count false := by
  obtain ⟨hlt, e⟩ := List.getElem?_eq_some_iff.1 h
  have hpos : 0 < l.count false := List.count_pos_iff.2 (by rw [← e]; exact List.getElem_mem hlt)
  rw [List.count_set hlt, e]
  simp
  omega

theorem draw_any (hC : CtxOk P C) {Q : Exit → Act → World → Prop} {ops : Array Oper} {s : St} {rs : List Rec} (ht : Trace C ops.toList 0 [] ops.toList s rs) (hp : pairsOk ops.toList (numbered 0 ops.toList) = true) {O : Cells} {w0 : World} {S0 : Cells} {m0 : Nat → Option MB}
    (hQ : ∀ a' w' S' m', Rel (apps rs s) a'.tmps w' S' m' → TmOk C a' → Ext O w0 S0 m0 w' S' m' (OwnSt (apps rs s).sto m') → Q .normal a' w') :
    ∀ (fuel : Nat) (listed : Array Bool) (a : Act) (w : World) (S : Cells) (m : Nat → Option MB), listed.size = ops.size → Closed ops.toList (listA listed) → listed.toList.count false ≤ fuel →
      Rel (replay rs (listA listed) 0 s) a.tmps w S m → TmOk C a → Ext O w0 S0 m0 w S m (OwnSt (replay rs (listA listed) 0 s).sto m) → wpAny P .any ops Q fuel listed a w := by
  have hlen := ht.len
  simp only [Array.length_toList] at hlen
  have p1 := (pairsOk_get hp).1
  -- where nothing may come up any more, all has come
  have hall : ∀ listed : Array Bool, listed.size = ops.size → Region.ready .any ops listed = [] → ∀ j, j < rs.length → listA listed j = true := by
    intro listed hsz hr j
    induction j using Nat.strongRecOn with
    | _ j ih =>
      intro hj
      cases hq : listA listed j with
      | true => rfl
      | false =>
        exfalso
        have hjo : j < ops.size := by omega
        have ho : ops[j]? = some ops[j] := Array.getElem?_eq_getElem hjo
        have : j ∈ Region.ready .any ops listed := mem_ready.2 ⟨by
            unfold listA at hq
            have hjl : j < listed.size := by omega
            simp only [Array.getD_eq_getD_getElem?, Array.getElem?_eq_getElem hjl, Option.getD_some] at hq ⊢
            exact hq, ops[j], ho, fun e he hb => by
          have := aftOf_of (p := fun x => x < j) (l := ops[j].after.toList) (fun x hx => by have := p1 j ops[j] (by rw [Array.getElem?_toList]; exact ho) x hx; omega) e (by simpa using he) hb
          exact ih e.on this (by omega)⟩
        rw [hr] at this; cases this
  have hfin : ∀ (listed : Array Bool) (a : Act) (w : World) (S : Cells) (m : Nat → Option MB), (∀ j, j < rs.length → listA listed j = true) →
      Rel (replay rs (listA listed) 0 s) a.tmps w S m → TmOk C a → Ext O w0 S0 m0 w S m (OwnSt (replay rs (listA listed) 0 s).sto m) → Q .normal a w := by
    intro listed a w S m h1 h2 h3 h4
    rw [replay_all h1] at h2 h4
    exact hQ a w S m h2 h3 h4
  intro fuel
  induction fuel with
  | zero =>
    intro listed a w S m hsz hcl hcnt hr hT he
    have hnone : ∀ j, j < rs.length → listA listed j = true := fun j hj => by
      have h0 : false ∉ listed.toList := List.count_eq_zero.1 (Nat.le_zero.1 hcnt)
      have hjl : j < listed.size := by omega
      unfold listA
      simp only [Array.getD_eq_getD_getElem?, Array.getElem?_eq_getElem hjl, Option.getD_some]
      cases hq : listed[j] with
      | true => rfl
      | false => exact absurd (by rw [← hq]; simp) h0
    refine ⟨?_, hfin listed a w S m hnone hr hT he⟩
    cases hq : Region.ready .any ops listed with
    | nil => rfl
    | cons j l =>
      have : j ∈ Region.ready .any ops listed := by rw [hq]; exact List.mem_cons_self
      obtain ⟨h1, o, h2, _⟩ := mem_ready.1 this
      have hj : j < ops.size := (Array.getElem?_eq_some_iff.1 h2).1
      have h3 := hnone j (by omega)
      unfold listA at h3
      have hjl : j < listed.size := by omega
      simp only [Array.getD_eq_getD_getElem?, Array.getElem?_eq_getElem hjl, Option.getD_some] at h1 h3
      rw [h3] at h1; cases h1
  | succ fuel ih =>
    intro listed a w S m hsz hcl hcnt hr hT he
    refine ⟨fun h0 => hfin listed a w S m (hall listed hsz h0) hr hT he, fun i hi => ?_⟩
    obtain ⟨hun, o, ho, haft⟩ := mem_ready.1 hi
    have hio : i < ops.size := (Array.getElem?_eq_some_iff.1 ho).1
    have hil : i < listed.size := by omega
    obtain ⟨r, hri⟩ : ∃ r, rs[i]? = some r := ⟨rs[i]'(by omega), List.getElem?_eq_getElem (by omega)⟩
    have hro : r.o = o := by
      have := ht.op i r hri
      rw [Array.getElem?_toList, ho] at this
      exact (Option.some.inj this).symm
    have hA : listA listed i = false := by
      unfold listA
      simp only [Array.getD_eq_getD_getElem?, Array.getElem?_eq_getElem hil, Option.getD_some] at hun ⊢
      exact hun
    have haft' : ∀ e ∈ aftOf r.o.after.toList, listA listed e = true := by
      rw [hro]
      exact aftOf_mem (p := fun x => listA listed x = true) fun e he hb => haft e (by simpa using he) hb
    obtain ⟨hran, hnext⟩ := draw_step ht hp hcl hri hA haft'
    -- behind it
    have hset : (fun j => listA listed j || Nat.beq j i) = listA (listed.setIfInBounds i true) := by
      funext j
      unfold listA
      by_cases hj : j = i
      · subst hj; simp [hil]
      · have : Nat.beq j i = false := by cases hb : Nat.beq j i with
          | false => rfl
          | true => exact absurd (Nat.eq_of_beq_eq_true hb) hj
        rw [this, Bool.or_false]
        simp [Array.getElem?_setIfInBounds_ne (Ne.symm hj)]
    rw [hset] at hnext
    have hcl' : Closed ops.toList (listA (listed.setIfInBounds i true)) := by
      rw [← hset]
      intro j oj hj hAj e he'
      by_cases e1 : j = i
      · subst e1
        rw [Array.getElem?_toList, ho] at hj
        cases hj
        rw [hro] at haft'
        simp [haft' e he']
      · have : Nat.beq j i = false := by cases hb : Nat.beq j i with
          | false => rfl
          | true => exact absurd (Nat.eq_of_beq_eq_true hb) e1
        simp only [this, Bool.or_false] at hAj
        simp [hcl j oj hj hAj e he']
    have hcnt' : (listed.setIfInBounds i true).toList.count false ≤ fuel := by
      have h1 : listed.toList[i]? = some false := by
        rw [Array.getElem?_toList, Array.getElem?_eq_getElem hil]
        simp only [Array.getD_eq_getD_getElem?, Array.getElem?_eq_getElem hil, Option.getD_some] at hun
        rw [hun]
      have := count_false_set h1
      rw [Array.toList_setIfInBounds]
      omega
    have hsz' : (listed.setIfInBounds i true).size = ops.size := by simp [hsz]
    have next : ∀ a' w' S' m', Rel (r.app (replay rs (listA listed) 0 s)) a'.tmps w' S' m' → TmOk C a' → Ext (OwnSt (replay rs (listA listed) 0 s).sto m) w S m w' S' m' (OwnSt (r.app (replay rs (listA listed) 0 s)).sto m') →
        wpAny P .any ops Q fuel (listed.setIfInBounds i true) a' w' := by
      intro a' w' S' m' h1 h2 h3
      exact ih _ a' w' S' m' hsz' hcl' hcnt' (by rw [hnext]; exact h1) h2 (by rw [hnext]; exact he.trans h3)
    unfold wpOp
    simp only [ho]
    have hw := hran.1.wanted rfl hr
    rw [hro] at hw
    rw [hw]
    cases hq : r.ran with
    | true =>
      simp only [if_true]
      left
      obtain ⟨g1, g2, _, _⟩ := hran.2.1 hq
      rw [hro] at g1
      have hev : evalOp C o (replay rs (listA listed) 0 s).env (replay rs (listA listed) 0 s).sto (fun t u => some (t, u)) = some (r.t, r.u) := by rw [← hro]; exact g2 _ _
      obtain ⟨t, u, hk, hh⟩ := wp_one hC hr hT (Q := Q) (next := wpAny P .any ops Q fuel (listed.setIfInBounds i true)) (ops := ops) g1 hev (by rw [hw, hq])
      cases hk
      have happ : r.app (replay rs (listA listed) 0 s) = (replay rs (listA listed) 0 s).step o r.t r.u := by
        unfold Rec.app
        rw [hro, hq, Bool.true_and, ← step_env o r.t r.u]
        rfl
      exact hh fun a' w' S' m' h1 h2 h3 => next a' w' S' m' (by rw [happ]; exact h1) h2 (by rw [happ]; exact h3)
    | false =>
      simp only [Bool.false_eq_true, if_false]
      obtain ⟨g1, g2⟩ := hran.2.2 hq
      have happ : r.app (replay rs (listA listed) 0 s) = { replay rs (listA listed) 0 s with env := putE o.dst .und (replay rs (listA listed) 0 s).env } := by
        unfold Rec.app
        rw [hro, hq, g1, g2]
        rfl
      refine next _ w S m (by rw [happ]; exact hr.skip _) (hT.put _ _) ?_
      rw [happ]
      exact Ext.refl ..

/-- **A region does what the evaluator says.** -/
theorem region_ok (hC : CtxOk P C) (hm : P.follows .mixedOrders = true) {Q : Exit → Act → World → Prop} {id : Nat} {ops : Array Oper} {d : Bool} {κ : St → Option R} {r : R} {s : St} {a : Act} {w : World} {S : Cells} {m : Nat → Option MB}
    (hr : Rel s a.tmps w S m) (hT : TmOk C a) (he : evalReg C d ops.toList s κ = some r)
    (hQ : ∀ s' a' w' S' m', κ s' = some r → Rel s' a'.tmps w' S' m' → TmOk C a' → Ext (OwnSt s.sto m) w S m w' S' m' (OwnSt s'.sto m') → Q .normal a' w') : (Code.region id ops d).wp P Q a w := by
  cases d with
  | false =>
    refine wp_region ?_
    have := evalOps_ok hC (Q := Q) ops.toList 0 (fun j => by rw [Nat.zero_add, Array.getElem?_toList]) hr hT he hQ
    rwa [Array.length_toList, ← List.range_eq_range'] at this
  | true =>
    obtain ⟨hp, he⟩ := bif_some he
    obtain ⟨rs, h1, h2⟩ := evalDraw_tr (my := []) (fun g hg => by cases hg) he
    have ht := h1.trace
    refine wp_region_any hm ?_
    have hnone : ∀ j, listA (Array.replicate ops.size false) j = false := fun j => by
      unfold listA
      rcases Nat.lt_or_ge j ops.size with q | q
      · simp [q]
      · simp [Array.getElem?_eq_none (xs := Array.replicate ops.size false) (i := j) (by simpa using q)]
    have h0 : replay rs (listA (Array.replicate ops.size false)) 0 s = s := by
      have : ∀ (rs : List Rec) (k : Nat) (s : St), replay rs (listA (Array.replicate ops.size false)) k s = s := by
        intro rs
        induction rs with
        | nil => intro k s; rfl
        | cons r rs ih => intro k s; simp only [replay, hnone, cond_false]; exact ih _ _
      exact this rs 0 s
    refine draw_any hC ht hp (O := OwnSt s.sto m) (w0 := w) (S0 := S) (m0 := m) (fun a' w' S' m' g1 g2 g3 => hQ _ a' w' S' m' h2 g1 g2 g3) ops.size _ a _ S m (by simp) (fun j o _ hA => by rw [hnone] at hA; cases hA) ?_ ?_ hT ?_
    · simp
    · rw [h0]; exact hr.drew _
    · rw [h0]; exact Ext.drew _ _ _ _ _ (Nat.le_succ _)
end
end Go.Proofs.D
