/- Calls: an operation that calls a function does what the evaluator says. -/
import Derived.Test.YtmhbfandkefnaaaDNat
set_option linter.unusedVariables false
set_option linter.unusedSimpArgs false
namespace Go.Proofs.D
open Go.RowKit

section
variable {P : Program} {C : Ctx} {s : St} {a : Act} {w w' : World} {S S' S2 : Cells} {m m' : Nat → Option MB} {R : Type} {κ : T → Ups → Option R} {r : R} {o : Oper}

theorem RepV.flatT {t : T} {v : Value} (hf : t.flatT = true) (h : RepV w S m t v) : RepV w S2 m t v := h.imp id fun ⟨cs, h, hs⟩ => ⟨cs, RepC.flatT hf h, hs⟩

theorem bindsOk_find {σ : Sto} {n : Nat} : ∀ {ρ : Binds} {k id : Nat} {p : List Step}, bindsOk σ n ρ = true → ρ.find k = some (id, p) → k < n ∧ (p = [] ∨ ∃ c d, shapeO (σ id) = some c ∧ codeAt c p = some d)
  | [], k, id, p, _, h => by cases h
  | (j, id', p') :: r, k, id, p, hb, h => by
    simp only [bindsOk, Bool.and_eq_true] at hb
    obtain ⟨⟨h1, h2⟩, h3⟩ := hb
    rw [find_cons] at h
    cases hkj : Nat.beq j k with
    | false => rw [hkj] at h; exact bindsOk_find h3 h
    | true =>
      rw [hkj] at h; cases h
      have := Nat.eq_of_beq_eq_true hkj
      subst this
      refine ⟨by simpa [Nat.blt_eq] using h1, ?_⟩
      cases p' with
      | nil => exact .inl rfl
      | cons q r =>
        right
        simp only [List.isEmpty_cons, Bool.false_or] at h2
        unfold shapeP at h2
        split at h2
        · rename_i c hc
          cases hd : codeAt c (q :: r) with
          | none => rw [hd] at h2; cases h2
          | some d => exact ⟨c, d, hc, hd⟩
        · cases h2

theorem fillOs_fz {l : List ObSk} {x : ObsEl l} {a : Nat} {c : K} {fz : Bool} {t : T} (h : (fillOs l x)[a]? = some (some (.cell c fz t))) : fz = false := by
  obtain ⟨o, y, _, e⟩ := fillOs_get h
  cases o <;> simp [fillO] at e
  exact e.2.1
theorem fillOs_length : ∀ (l : List ObSk) (x : ObsEl l), (fillOs l x).length = l.length
  | [], _ => rfl
  | o :: l, x => by simp [fillOs, fillOs_length l x.2]
theorem fillOs_flat {l : List ObSk} {x : ObsEl l} (h : flatL l = true) (a : Nat) (o : Obj) (ho : (fillOs l x)[a]? = some (some o)) : flatObj o = true := by
  obtain ⟨os, y, h1, e⟩ := fillOs_get ho
  exact flatObj_fill (flatL_get h h1) e.symm

theorem call_ok (hr : Rel s a.tmps w S m) {f : FuncId} {sg : Sig} (hs : Sound P f sg) {dn : Nat} (h1 : dn < 99000) (h2 : s.done dn = false) {args : T} {vals : List Value} (ha : RepC w S m args vals) {none' : Unit → Option R}
    (he : callK sg dn args s.sto κ none' = some r) :
    none' () = some r ∨ ∃ t ups, κ t ups = some r ∧ Upon P ((callFunc f vals.toArray).run P w) (After s a.tmps w S m true dn t ups) := by
  unfold callK at he
  split at he
  · exact .inl he
  rename_i x u hx
  split at he
  · exact .inl he
  rename_i ob ρ ups hob
  cases hc : (distinct ρ.ids && flagsOk (upds ups s.sto) ρ 0 sg.objs && bindsOk (upds ups s.sto) sg.objs.length ρ && Nat.ble sg.objs.length sg.outs.length && Nat.ble sg.outs.length 500) with
  | false => rw [hc] at he; exact .inl he
  | true =>
  rw [hc] at he
  simp only [cond_true] at he
  simp only [Bool.and_eq_true] at hc
  obtain ⟨⟨⟨⟨c1, c2⟩, c3⟩, c4⟩, c5⟩ := hc
  have hn : sg.objs.length ≤ sg.outs.length := Nat.le_of_ble_eq_true c4
  have hN : sg.outs.length ≤ 500 := Nat.le_of_ble_eq_true c5
  obtain ⟨y, hy, hse⟩ := Option.bind_eq_some_iff.1 he
  clear he
  right
  have hfresh := hr.fresh dn h1 h2
  have hnb : ∀ k, k < 500 → m (1000500 + 1000 * dn + k) = none := fun k hk => by
    have := hfresh.2 (500 + k) (by omega)
    rwa [show 1000000 + 1000 * dn + (500 + k) = 1000500 + 1000 * dn + k by omega] at this
  have l0 : Later (1000500 + 1000 * dn) s.sto w S m ([], []) S m :=
    ⟨Step1.refl hr.toStoRel, More.refl _, fun i v q => .inl q, (fun i o q => by cases q), (fun i o q1 q2 => by have q2 : s.sto i = some o := q2; rw [q1] at q2; cases q2), (fun _ k id p q => by cases q)⟩
  obtain ⟨⟨S0, m0, f0, told⟩, _⟩ := unT_ok hr.toStoRel hnb l0 ha hx
  obtain ⟨S1, m1, f1, tolds⟩ := unOs_ok hr.toStoRel hnb f0.later hob
  have lt := f1.later
  have told1 := told ρ S1 m1 f1.le f1.keeps f1.maps
  obtain ⟨sti, _, place⟩ := un_final lt (fun j ob q => by have := tolds j ob q; rwa [Nat.zero_add] at this) c1 c2
  have hkeys : ∀ k id p, ρ.find k = some (id, p) → k < sg.objs.length := fun k id p q => (bindsOk_find c3 q).1
  have hbig : ∀ i, sg.objs.length ≤ i → bindM ρ m1 i = none := fun i hi => by
    unfold bindM
    split
    · rename_i id p q; have := hkeys _ _ _ q; omega
    · rfl
  have hnew : ∀ k, k < 500 → m1 (1000000 + 1000 * dn + k) = none := fun k hk => by
    cases hq : m1 (1000000 + 1000 * dn + k) with
    | none => rfl
    | some v =>
      rcases lt.ids _ _ hq with q | ⟨k', _, q, _⟩
      · rw [hfresh.2 k (by omega)] at q; cases q
      · omega
  have hsound := hs w S1 (bindM ρ m1) (x, ob) y vals hy told1
    ⟨sti, fun t => .inl rfl, fun d hd _ => ⟨hbig _ (by omega), fun k hk => hbig _ (by omega)⟩, fun i hi => hbig _ (by omega)⟩ (fun i hi => hbig _ (by omega))
  -- the base that the call is settled upon
  have base : ∃ σb Sb u0, u0 = (bif sg.ret.flat && flatL sg.outs then news (1000500 + 1000 * dn) ups else ups) ∧ (∀ i, upds u0 s.sto i = σb i) ∧ Step1 s.sto w S m σb w Sb m1 ∧ Called sg.objs.length dn ρ (objs0 (fillOs sg.objs ob)) (upds ups s.sto) σb w S1 Sb m1 ∧
      ((∀ b x, S1 b x → Sb b x) ∨ (sg.ret.flat = true ∧ flatL sg.outs = true)) ∧ (∀ id c0 t0, s.sto id = some (.cell c0 false t0) → upds ups s.sto id = some (.cell c0 false t0) ∧ σb id = some (.cell c0 false t0)) := by
    have bnd := lt.bnd (by omega)
    have path := fun k id p q => (bindsOk_find (k := k) (id := id) (p := p) c3 q).2
    cases hfl : (sg.ret.flat && flatL sg.outs) with
    | false =>
      exact ⟨upds ups s.sto, S1, ups, rfl, fun i => rfl, lt.step,
        ⟨lt.step.rel, lt.step.rel, sti, More.refl _, fun i o q => ⟨o, q⟩, fun b x q => q, fun b x q => .inl q, hkeys, path, bnd, fun i j id p q h3 h4 => distinct_find c1 h3 h4, hnew, place⟩,
        .inl fun b x q => q, fun id c0 t0 q => ⟨lt.more _ _ q, lt.more _ _ q⟩⟩
    | true =>
      simp only [Bool.and_eq_true] at hfl
      obtain ⟨st, hsp⟩ := news_step hr.toStoRel hnb lt
      refine ⟨upds (news (1000500 + 1000 * dn) ups) s.sto, S, news (1000500 + 1000 * dn) ups, rfl, fun i => rfl, st,
        ⟨lt.step.rel, st.rel, sti, fun i o q => ?_, fun i o q => ?_, lt.step.keeps.more, fun b x q => ?_, hkeys, path, bnd, fun i j id p q h3 h4 => distinct_find c1 h3 h4, hnew, place⟩,
        .inr hfl, fun id c0 t0 q => ⟨lt.more _ _ q, by rw [hsp id, q]⟩⟩
      · rw [hsp i] at q
        cases hq : s.sto i with
        | none => rw [hq] at q; exact More.refl _ i o q
        | some o' => rw [hq] at q; cases q; exact lt.more i o hq
      · rw [hsp i]
        cases hq : s.sto i with
        | none => exact ⟨o, q⟩
        | some o' => exact ⟨o', rfl⟩
      · rcases lt.step.ext.less b x q with q | ⟨i, o, u, q1, q2, q3⟩ | q2
        · exact .inl q
        · exact .inr ⟨i, o, u, by rw [hsp i, q1], lt.step.ext.maps _ _ q2, q3⟩
        · have := lt.step.rel.live b x q; omega
  obtain ⟨σb, Sb, u0, hu0, hu1, stb, hcd, hkeep, hσ⟩ := base
  rw [← hu0] at hse
  rw [settle_nat] at hse
  obtain ⟨vv, hvv, hk⟩ := Option.bind_eq_some_iff.1 hse
  clear hse
  refine ⟨_, vv, hk, hsound.mono fun v w' ⟨S', m', e1, e2, e3, e4⟩ => ?_⟩
  obtain ⟨v2, S2, k1, k2, k3⟩ := hcd.settle (N := sg.outs.length) hN hn (fillOs_length _ _) (fun a c fz t q => fillOs_fz q) hσ hu1 (hkeep.imp (fun q => q) fun q a o ho => fillOs_flat q.2 a o ho) e2.toStoRel e3 e4 hvv
  have hinto := hcd.into (N := sg.outs.length) hN e3
  cases k1
  refine After.of hr (stb.trans k2) ?_ fun i u q => ?_
  · rcases hkeep with q | q
    · exact backV_ok hinto (e1.keep ⟨k3 q, fun _ _ _ _ h => h⟩ fun _ _ q => q)
    · exact backV_ok hinto (RepV.flatT (flatT_fill _ _ q.1) e1)
  · rcases callM_inv q with q | ⟨k, q1, q2, q3⟩
    · rcases lt.ids _ _ q with q | ⟨k, q1, q2, _⟩
      · exact .inl q
      · exact .inr ⟨rfl, h1, .inr ⟨500 + k, by omega, by omega⟩⟩
    · exact .inr ⟨rfl, h1, .inr ⟨k, by omega, q3⟩⟩

theorem callsK_ok (hr : Rel s a.tmps w S m) {f : FuncId} {dn : Nat} (h1 : dn < 99000) (h2 : s.done dn = false) {args : T} {vals : List Value} (ha : RepC w S m args vals) : ∀ {l : List Sig}, (∀ sg ∈ l, Sound P f sg) →
    callsK l dn args s.sto κ = some r → ∃ t ups, κ t ups = some r ∧ Upon P ((callFunc f vals.toArray).run P w) (After s a.tmps w S m true dn t ups)
  | [], _, he => by cases he
  | sg :: l, hs, he => by
    rcases call_ok hr (hs sg (by simp)) h1 h2 ha he with h | h
    · exact callsK_ok hr h1 h2 ha (fun sg q => hs sg (by simp [q])) h
    · exact h

theorem Does.of_upon {f : Value → World → Prop} (h : Upon P ((execOp a.eval o).run P w) f) : Does P o a w f := by
  intro next Q k
  unfold Oper.wp
  unfold Upon at h
  split at h
  · rename_i v w' hv; rw [hv]; exact k _ _ h
  · rename_i g args w' hv
    rw [hv, Oper.upon_enter]
    exact h.mono fun e w' ⟨v, he, hr⟩ => by subst he; exact k _ _ hr
  · exact h.elim

theorem T.app_ok {c : T} {ws : List Value} (hc : RepC w S m c ws) (hr : Rel s a.tmps w S m) : ∀ {xs : List Operand} {tys : List (Option K)} {t : T}, chainT s.env tys xs = some t → RepC w S m (t.app c) (xs.map a.eval ++ ws)
  | [], _, t, h => by simp only [chainT, Option.some.injEq] at h; subst h; exact hc
  | x :: xs, tys, t, h => by
    simp only [chainT] at h
    obtain ⟨u, hu, h⟩ := Option.bind_eq_some_iff.1 h
    obtain ⟨q, hq, e⟩ := Option.map_eq_some_iff.1 h
    cases e
    exact ⟨_, _, rfl, opnd_ok hr hu, T.app_ok hc hr hq⟩

theorem ok_callV (hC : CtxOk P C) (hr : Rel s a.tmps w S m) {c : Call} {f : Operand} (ho : o.op = .call c) (hb : c.callee = .value f)
    {d : Nat} (hd : (match o.dst with | some d => d | none => 0) = d) (h1 : d < 99000) (h2 : s.done d = false) (he : evalOp C o s.env s.sto κ = some r) : Ok P s a w S m o κ r := by
  subst hd
  simp only [evalOp, ho, hb] at he
  have hmk : makes o.op = true := by simp only [ho, makes, hb]
  split at he
  case h_2 => cases he
  rename_i g caps hf
  split at he
  case h_2 => cases he
  rename_i args hargs
  obtain ⟨vs, hvs, hfv⟩ : ∃ vs, RepC w S m caps vs ∧ a.eval f = .func (.func g) #[] vs.toArray := by
    rcases opnd_ok hr hf with q | ⟨cs, ⟨vs, q1, q2⟩, q3⟩
    · cases q
    · subst q2; exact ⟨vs, q1, by simpa [Shut, T.isAgg] using q3.symm⟩
  obtain ⟨t, ups, k1, k2⟩ := callsK_ok hr h1 h2 (T.app_ok hvs hr hargs) (hC.sigs g) he
  refine ⟨t, ups, k1, Does.of_upon ?_⟩
  rw [hmk]
  have : execOp a.eval o = callFunc g (c.args.toList.map a.eval ++ vs).toArray := by
    have e2 : (c.args.toList.map a.eval ++ vs).toArray = (#[] ++ c.args.map a.eval) ++ vs.toArray := by
      apply Array.ext'; simp
    rw [e2]
    simp [execOp, ho, resolve, hb, hfv, Deferred.ofValue, invoke]
  rw [this]; exact k2
end
end Go.Proofs.D
