/- Operations one by one; regions whose order is the text's. -/
import Derived.Test.YtmmhjcimijfipaaGreatDNat2
import Derived.Test.YtmmhjcimijfipaaGreatDMap
import Derived.Orders
set_option linter.unusedVariables false
set_option linter.unusedSimpArgs false
namespace Go.Proofs.D
open Go.RowKit

section
variable {P : Program} {C : Ctx} {s : St} {a : Act} {w : World} {S : Cells} {m : Nat → Option MB} {R : Type} {κ : T → Ups → Option R} {r : R} {o : Oper}

theorem ok_op (hC : CtxOk P C) (hr : Rel s a.tmps w S m) (hst : stepOk C o s = true) (he : evalOp C o s.env s.sto κ = some r) : Ok P s a w S m o κ r := by
  simp only [stepOk, Bool.and_eq_true, Bool.not_eq_true'] at hst
  obtain ⟨g1, g2⟩ := hst
  have h1 : (match o.dst with | some d => d | none => 0) < 99000 := by
    split
    · rename_i d hd
      rw [hd] at g1
      simp only [Nat.blt_eq] at g1
      exact Nat.lt_of_lt_of_le g1 hC.n
    · show (0 : Nat) < 99000
      omega
  have h2 : makes o.op = true → s.done (match o.dst with | some d => d | none => 0) = false := fun q => by rw [q] at g2; rw [Bool.true_and] at g2; exact g2
  cases hop : o.op with
  | move x => exact ok_move hr hop he
  | assign x => exact ok_assign hr hop he
  | pick c x y => exact ok_pick hr hop he
  | alloc t => exact ok_alloc hC hr hop rfl h1 (h2 (by rw [hop]; rfl)) he
  | box t x => exact ok_box hC hr hop rfl h1 (h2 (by rw [hop]; rfl)) he
  | build t ps => exact ok_build hC hr hop he
  | buildSlice t n ps => exact ok_buildSlice hC hr hop rfl h1 (h2 (by rw [hop]; rfl)) he
  | load t x => exact ok_load hC hr hop he
  | store t x y => exact ok_store hC hr hop he
  | nilCheck x => exact ok_nilCheck hr hop he
  | binOp op t x y t' => exact ok_binOp hC hr hop he
  | unOp op t x => exact ok_unOp hr hop he
  | convert t d x => exact ok_convert hC hr hop he
  | slice t x lo hi mx => exact ok_slice hC hr hop rfl h1 (h2 (by rw [hop]; rfl)) he
  | fieldAddr t x j => exact ok_fieldAddr hC hr hop he
  | field t x j => exact ok_field hC hr hop he
  | indexAddr t x i => exact ok_indexAddr hC hr hop he
  | index t x i => exact ok_index hC hr hop he
  | extract x j => exact ok_extract hr hop he
  | makeFunc f fst caps => exact ok_makeFunc hr hop he
  | makeSlice t x y => exact ok_makeSlice hC hr hop rfl h1 (h2 (by rw [hop]; rfl)) he
  | makeMap t rs => exact ok_makeMap hC hr hop rfl h1 (h2 (by rw [hop]; rfl)) he
  | lookup t x i ok => exact ok_lookup hC hr hop he
  | mapUpdate t x i z => exact ok_mapUpdate hC hr hop he
  | call c =>
    cases hca : c.callee with
    | invoke x n => simp only [evalOp, hop, hca] at he; cases he
    | value f => exact ok_callV hC hr hop hca rfl h1 (h2 (by rw [hop]; simp only [makes, hca])) he
    | builtin b =>
      have he2 := he
      simp only [evalOp, hop, hca] at he2
      split at he2
      · rename_i hb ha; exact ok_len hC hr hop hca ha he
      · rename_i hb ha; exact ok_max hr hop hca ha he
      · rename_i hb ha; exact ok_min hr hop hca ha he
      · rename_i hb ha; exact ok_append hC hr hop hca ha rfl h1 (h2 (by rw [hop]; simp only [makes, hca])) he
      · rename_i hb ha; exact ok_delete hC hr hop hca ha he
      · cases he2
  | _ => simp only [evalOp, hop] at he; cases he

/-- The frame: as many slots as are told, nothing deferred. -/
def TmOk (C : Ctx) (a : Act) : Prop := a.tmps.size = C.n ∧ a.defers = []

theorem TmOk.put (h : TmOk C a) (d : Option Tmp) (v : Value) : TmOk C (a.put d v) := by
  cases d with
  | none => exact h
  | some d => exact ⟨by simp [Act.put, h.1], h.2⟩

def putE (d : Option Tmp) (t : T) (s : Nat → T) : Nat → T := match d with | some d => fun x => bif Nat.beq x d then t else s x | none => s
theorem step_env (o : Oper) (t : T) (u : Ups) : (s.step o t u).env = putE o.dst t s.env := by unfold St.step putE; cases o.dst <;> rfl
theorem skip_env (o : Oper) : skip o s = { s with env := putE o.dst .und s.env } := by unfold skip putE; cases o.dst <;> rfl

theorem env_put {s : Nat → T} {w' : World} {S' : Cells} {m' : Nat → Option MB} (h : ∀ t, RepV w' S' m' (s t) (a.tmps.getD t undef)) {d : Option Tmp} {t : T} {v : Value} (hv : RepV w' S' m' t v) (hd : ∀ e, d = some e → e < a.tmps.size) :
    ∀ x, RepV w' S' m' (putE d t s x) ((a.put d v).tmps.getD x undef) := by
  intro x
  cases d with
  | none => exact h x
  | some d =>
    simp only [Act.put, putE]
    by_cases hx : x = d
    · subst hx
      have hlt := hd x rfl
      simpa [hlt] using hv
    · have e1 : (bif Nat.beq x d then t else s x) = s x := by
        have : Nat.beq x d = false := by cases hb : Nat.beq x d with
          | false => rfl
          | true => exact absurd (Nat.eq_of_beq_eq_true hb) hx
        rw [this]; rfl
      rw [e1]
      have e2 : (a.tmps.setIfInBounds d v).getD x undef = a.tmps.getD x undef := by
        simp [Array.getElem?_setIfInBounds_ne (Ne.symm hx)]
      rw [e2]; exact h x

theorem After.put {t : T} {ups : Ups} {v : Value} {w' : World} (h : After s a.tmps w S m (makes o.op) (match o.dst with | some d => d | none => 0) t ups v w') (hd : ∀ e, o.dst = some e → e < a.tmps.size) :
    ∃ S' m', Rel (s.step o t ups) (a.put o.dst v).tmps w' S' m' ∧ Ext (OwnSt s.sto m) w S m w' S' m' (OwnSt (s.step o t ups).sto m') := by
  obtain ⟨S', m', h1, h2, h3⟩ := h
  exact ⟨S', m', ⟨h2.toStoRel, by rw [step_env]; exact env_put h2.env h1 hd, h2.fresh, h2.top⟩, h3⟩

theorem Rel.skip (h : Rel s a.tmps w S m) (d : Option Tmp) : Rel { s with env := putE d .und s.env } (a.put d undef).tmps w S m := by
  refine ⟨h.toStoRel, fun x => ?_, h.fresh, h.top⟩
  by_cases hd : ∀ e, d = some e → e < a.tmps.size
  · exact env_put h.env (t := .und) (.inr ⟨[undef], rfl, by simp [Shut, T.isAgg]⟩) hd x
  · cases d with
    | none => exact absurd (fun e q => by cases q) hd
    | some d =>
      have hge : a.tmps.size ≤ d := by
        rcases Nat.lt_or_ge d a.tmps.size with q | q
        · exact absurd (fun e q' => by cases q'; exact q) hd
        · exact q
      have e1 : (a.put (some d) undef).tmps = a.tmps := by simp [Act.put, Array.setIfInBounds, Nat.not_lt.2 hge]
      rw [e1]
      simp only [putE]
      cases hb : Nat.beq x d with
      | false => exact h.env x
      | true =>
        rw [Nat.eq_of_beq_eq_true hb]
        have : a.tmps.getD d undef = undef := by simp [Array.getElem?_eq_none hge]
        rw [this]
        exact .inr ⟨[undef], rfl, by simp [Shut, T.isAgg]⟩

/-! ### Guards -/
/-- Is the operation wanted? -/
def GuardSt (all : List Oper) (o : Oper) (s : Nat → T) (b : Bool) : Prop :=
  match o.guard with
  | none => b = true
  | some (j, want) => ∃ d, (all[j]?).bind (·.dst) = some d ∧ ((∃ p, s d = .val .bool p ∧ b = (p == want)) ∨ (s d = .und ∧ b = false))

theorem put_same {d : Nat} {t : T} (h : s.env d = t) : s.put d t = s := by
  unfold St.put
  have : (fun u => bif Nat.beq u d then t else s.env u) = s.env := by
    funext u
    cases hb : Nat.beq u d with
    | false => rfl
    | true => rw [Nat.eq_of_beq_eq_true hb, h]; rfl
  rw [this]

theorem guardK_inv {all : List Oper} {run out : St → Option R} (h : guardK all o s run out = some r) : (GuardSt all o s.env true ∧ run s = some r) ∨ (GuardSt all o s.env false ∧ out (skip o s) = some r) := by
  unfold guardK at h
  unfold GuardSt
  split at h
  · rename_i hg
    exact .inl ⟨by rw [hg], h⟩
  · rename_i j want hg
    rw [hg]
    split at h
    · cases h
    · rename_i d hd
      split at h
      · rename_i b hb
        cases b <;> cases want <;> simp only [cond_true, cond_false, put_same hb] at h
        · exact .inl ⟨⟨d, hd, .inl ⟨_, hb, rfl⟩⟩, h⟩
        · exact .inr ⟨⟨d, hd, .inl ⟨_, hb, rfl⟩⟩, h⟩
        · exact .inr ⟨⟨d, hd, .inl ⟨_, hb, rfl⟩⟩, h⟩
        · exact .inl ⟨⟨d, hd, .inl ⟨_, hb, rfl⟩⟩, h⟩
      · rename_i hu; exact .inr ⟨⟨d, hd, .inr ⟨hu, rfl⟩⟩, h⟩
      · cases h

theorem GuardSt.wanted {ops : Array Oper} {all : List Oper} (e : ops.toList = all) {b : Bool} (h : GuardSt all o s.env b) (hr : Rel s a.tmps w S m) : Region.wanted o (yielded ops a.tmps) = b := by
  unfold GuardSt at h
  unfold Region.wanted
  split at h
  · rename_i hg; rw [hg]; exact h.symm
  · rename_i j want hg
    rw [hg]
    obtain ⟨d, hd, h⟩ := h
    have hd' : (ops[j]?).bind (·.dst) = some d := by rw [← hd, ← e, Array.getElem?_toList]
    have hv := hr.env d
    simp only [yielded, hd', Option.bind_some]
    rcases h with ⟨p, hp, hb⟩ | ⟨hu, hb⟩
    · rw [hp] at hv
      have hv := repV_bool hv
      have : a.tmps[d]? = some (.bool p) := by
        cases hq : a.tmps[d]? with
        | none => simp [hq] at hv; exact absurd hv (by simp [undef])
        | some x => simp [hq] at hv; rw [hv]
      rw [this, hb]; cases p <;> cases want <;> rfl
    · rw [hu] at hv
      have hv : a.tmps.getD d undef = undef := by
        rcases hv with q | ⟨cs, q1, q2⟩
        · cases q
        · simp only [RepC] at q1; subst q1; simpa [Shut, T.isAgg] using q2.symm
      rw [hb]
      cases hq : a.tmps[d]? with
      | none => simp
      | some x =>
        simp [hq] at hv
        rw [hv]; simp [undef]

/-- One operation, run or left out. -/
theorem wp_one (hC : CtxOk P C) (hr : Rel s a.tmps w S m) (hT : TmOk C a) {Q : Exit → Act → World → Prop} {next : Act → World → Prop} {ops : Array Oper} (hst : stepOk C o s = true) (he : evalOp C o s.env s.sto κ = some r)
    (hw : Region.wanted o (yielded ops a.tmps) = true) :
    ∃ t ups, κ t ups = some r ∧ ((∀ a' w' S' m', Rel (s.step o t ups) a'.tmps w' S' m' → TmOk C a' → Ext (OwnSt s.sto m) w S m w' S' m' (OwnSt (s.step o t ups).sto m') → next a' w') → o.wp P a w next Q) := by
  obtain ⟨t, ups, hk, hd⟩ := ok_op hC hr hst he
  refine ⟨t, ups, hk, fun h => hd next Q fun v w' ha => ?_⟩
  have hlt : ∀ e, o.dst = some e → e < a.tmps.size := fun e q => by
    simp only [stepOk, q, Bool.and_eq_true, Nat.blt_eq] at hst
    rw [hT.1]; exact hst.1
  obtain ⟨S', m', h1, h2⟩ := ha.put hlt
  exact h _ _ S' m' h1 (hT.put _ _) h2

theorem evalOps_ok (hC : CtxOk P C) {Q : Exit → Act → World → Prop} {ops : Array Oper} {κ : St → Option R} : ∀ (l : List Oper) (k : Nat), (∀ j, l[j]? = ops[k + j]?) → ∀ {s : St} {a : Act} {w : World} {S : Cells} {m : Nat → Option MB},
    Rel s a.tmps w S m → TmOk C a → evalOps C ops.toList l s κ = some r →
    (∀ s' a' w' S' m', κ s' = some r → Rel s' a'.tmps w' S' m' → TmOk C a' → Ext (OwnSt s.sto m) w S m w' S' m' (OwnSt s'.sto m') → Q .normal a' w') →
    wpOps P ops Q (List.range' k l.length) a w
  | [], k, _, s, a, w, S, m, hr, hT, he, h => h s a w S m he hr hT (Ext.refl ..)
  | o :: l, k, hl, s, a, w, S, m, hr, hT, he, h => by
    have ho : ops[k]? = some o := by simpa using (hl 0).symm
    have hl' : ∀ j, l[j]? = ops[k + 1 + j]? := fun j => by have := hl (j + 1); rwa [List.getElem?_cons_succ, show k + (j + 1) = k + 1 + j by omega] at this
    simp only [List.length_cons, List.range'_succ, wpOps, ho]
    simp only [evalOps] at he
    rcases guardK_inv he with ⟨hg, he⟩ | ⟨hg, he⟩
    · have hw := hg.wanted rfl hr
      simp only [hw, if_true]
      obtain ⟨hst, he⟩ := bif_some he
      obtain ⟨t, ups, hk, hh⟩ := wp_one hC hr hT (Q := Q) (next := wpOps P ops Q (List.range' (k + 1) l.length)) hst he hw
      exact .inl (hh fun a' w' S' m' h1 h2 h3 => evalOps_ok hC l (k + 1) hl' h1 h2 hk fun s2 a2 w2 S2 m2 g1 g2 g3 g4 => h s2 a2 w2 S2 m2 g1 g2 g3 (h3.trans g4))
    · have hw := hg.wanted rfl hr
      simp only [hw]
      have hr2 : Rel (skip o s) (a.put o.dst undef).tmps w S m := by rw [skip_env]; exact hr.skip _
      have es : OwnSt (skip o s).sto m = OwnSt s.sto m := by rw [skip_env]
      exact evalOps_ok hC l (k + 1) hl' hr2 (hT.put _ _) he fun s2 a2 w2 S2 m2 g1 g2 g3 g4 => h s2 a2 w2 S2 m2 g1 g2 g3 (by rw [es] at g4; exact g4)
end
end Go.Proofs.D
