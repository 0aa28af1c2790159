/- Code does what the evaluator says. -/
import Derived.Test.YtmmhjcimijfipaaGreatDDraw
import Derived.LoopN
set_option linter.unusedVariables false
set_option linter.unusedSimpArgs false
namespace Go.Proofs.D
open Go.RowKit

section
variable {P : Program} {C : Ctx} {q : Cuts}

theorem Ext.drop {O O' : Cells} {w w' : World} {S S' : Cells} {m m' : Nat → Option MB} (h : Ext O w S m w' S' m' O') : Ext O w S (fun _ => none) w' S' (fun _ => none) O' :=
  ⟨h.os, h.tape, h.output, h.size, (fun _ _ q => by cases q), h.more, h.less, h.own, h.cell, h.block⟩
theorem Ext.sub {O O1 O2 : Cells} {w w' : World} {S S' : Cells} {m m' : Nat → Option MB} (h : Ext O w S m w' S' m' O1) (k : ∀ b x, O2 b x → O1 b x) : Ext O w S m w' S' m' O2 :=
  ⟨h.os, h.tape, h.output, h.size, h.maps, h.more, h.less, fun b x q => h.own b x (k b x q), h.cell, h.block⟩

/-- Where a function's code has come to. -/
structure At (C : Ctx) (np : Nat) (O0 : Cells) (w0 : World) (S0 : Cells) (m0 : Nat → Option MB) (s : St) (a : Act) (w : World) (S : Cells) (m : Nat → Option MB) : Prop where
  rel : Rel s a.tmps w S m
  tm : TmOk C a
  ext : Ext O0 w0 S0 (fun _ => none) w S (fun _ => none) (OwnSt s.sto m)
  keep : ∀ i u, i < np → m0 i = some u → m i = some u

section
variable {np : Nat} {O0 : Cells} {w0 : World} {S0 : Cells} {m0 : Nat → Option MB} {s s' : St} {a a' : Act} {w w' : World} {S S' : Cells} {m m' : Nat → Option MB}

theorem At.step (h : At C np O0 w0 S0 m0 s a w S m) (h1 : Rel s' a'.tmps w' S' m') (h2 : TmOk C a') (h3 : Ext (OwnSt s.sto m) w S m w' S' m' (OwnSt s'.sto m')) : At C np O0 w0 S0 m0 s' a' w' S' m' :=
  ⟨h1, h2, h.ext.trans h3.drop, fun i u hi q => h3.maps i u (h.keep i u hi q)⟩

/-! ### Cuts -/
theorem idBindsG_find {l : List ObSk} {k : Nat} (hg : isGone (obAt l k) = false) : ∀ {n : Nat}, k < n → (idBindsG l n).find k = some (k, [])
  | 0, h => by omega
  | n + 1, h => by
    simp only [idBindsG]
    cases hb : Nat.beq n k with
    | true =>
      have e := Nat.eq_of_beq_eq_true hb
      subst e
      rw [hg, cond_false, find_cons, hb]; rfl
    | false =>
      have : n ≠ k := fun e => by subst e; simp at hb
      cases isGone (obAt l n) with
      | true => rw [cond_true]; exact idBindsG_find hg (by omega)
      | false => rw [cond_false, find_cons, hb]; exact idBindsG_find hg (by omega)
theorem keysG_find {l : List ObSk} {np : Nat} : ∀ {ρ : Binds} {k id : Nat} {p : List Step}, keysG l np ρ = true → k < np → isGone (obAt l k) = true → ρ.find k = some (id, p) → False
  | [], _, _, _, _, _, _, h => by cases h
  | (j, id', p') :: r, k, id, p, hb, hk, hg, h => by
    simp only [keysG, Bool.and_eq_true, Bool.not_eq_true', Bool.and_eq_false_iff] at hb
    rw [find_cons] at h
    cases hkj : Nat.beq j k with
    | true =>
      have e := Nat.eq_of_beq_eq_true hkj
      subst e
      rcases hb.1 with q | q
      · rw [show Nat.blt j np = true by simpa using hk] at q; cases q
      · rw [hg] at q; cases q
    | false => rw [hkj] at h; exact keysG_find hb.2 hk hg h
/-- What is gone keeps its number. -/
def patchM (l : List ObSk) (np : Nat) (ρ : Binds) (m : Nat → Option MB) : Nat → Option MB := fun i => if i < np ∧ isGone (obAt l i) = true then m i else bindM ρ m i
theorem patchM_le {l : List ObSk} {np : Nat} {ρ : Binds} {m : Nat → Option MB} (h : keysG l np ρ = true) {i : Nat} {u : MB} (hi : bindM ρ m i = some u) : patchM l np ρ m i = some u := by
  unfold patchM
  split
  · rename_i q
    exfalso
    unfold bindM at hi
    split at hi
    · rename_i id p hf; exact keysG_find h q.1 q.2 hf
    · cases hi
  · exact hi
theorem patchM_big {l : List ObSk} {np : Nat} {ρ : Binds} {m : Nat → Option MB} (h : keysB ρ = true) (hn : np ≤ 1000) {i : Nat} (hi : 1000 ≤ i) (hb : bindM ρ m i = none) : patchM l np ρ m i = none := by
  unfold patchM
  rw [if_neg (by omega)]; exact hb
theorem obAt_fill : ∀ {l : List ObSk} {x : ObsEl l} {i : Nat} {o : Obj}, objs0 (fillOs l x) i = some o → isGone (obAt l i) = false
  | [], _, _, _, h => by cases h
  | .cell _ _ :: _, _, 0, _, _ => rfl
  | .row _ _ :: _, _, 0, _, _ => rfl
  | .map _ _ :: _, _, 0, _, _ => rfl
  | .gone :: _, _, 0, _, h => by cases h
  | _ :: r, x, i + 1, o, h => by
    show isGone (obAt r i) = false
    exact obAt_fill (l := r) (x := x.2) h
theorem StoRel.remap {σ : Nat → Option Obj} {w : World} {S : Cells} {m m' : Nat → Option MB} (h : StoRel σ w S m) (hm : ∀ i u, m i = some u → m' i = some u) (he : ∀ i o, σ i = some o → m' i = m i) : StoRel σ w S m' := by
  refine ⟨fun i o ho => ?_, fun i j o p u v hij ho hp hu hv => h.apart i j o p u v hij ho hp (by rw [← he i o ho]; exact hu) (by rw [← he j p hp]; exact hv), fun i o u ho hu => h.stab i o u ho (by rw [← he i o ho]; exact hu), h.live⟩
  obtain ⟨u, h1, h2⟩ := h.sto i o ho
  exact ⟨u, hm i u h1, h2.keep (Keeps.refl w S) hm (fun _ _ _ => ⟨rfl, rfl⟩) (fun _ => rfl)⟩
theorem OwnSt.remap {σ : Nat → Option Obj} {m m' : Nat → Option MB} (he : ∀ i o, σ i = some o → m' i = m i) {b x : Nat} (h : OwnSt σ m' b x) : OwnSt σ m b x := let ⟨i, o, u, h1, h2, h3⟩ := h; ⟨i, o, u, h1, by rw [← he i o h1]; exact h2, h3⟩

theorem unT_any {σ : Nat → Option Obj} {nb : Nat} : ∀ {sk : Sk} {t : T} {u u' : Binds × Ups} {x : SkEl sk}, unT σ nb sk t u = some (x, u') → t.isAny = false := by
  intro sk t u u' x h
  cases t <;> first | rfl | skip
  exfalso
  cases sk <;> simp [unT] at h
  rename_i c
  cases c <;> first | simp [D.freeze] at h | (rename_i n e; cases n <;> simp [D.freeze] at h)

/-- The slots that a skeleton names. -/
theorem unE_ok {σ : Nat → Option Obj} (h0 : StoRel σ w S m) (hnb : ∀ k, k < 500 → m (100000000 + k) = none) {env : Nat → T} {tm : Array Value} (henv : ∀ t, RepV w S m (env t) (tm.getD t undef)) :
    ∀ {l : List (Nat × Sk)} {u u' : Binds × Ups} {x : EnvEl l} {S1 : Cells} {m1 : Nat → Option MB}, Later 100000000 σ w S m u S1 m1 → unE σ env l u = some (x, u') →
      ∃ S2 m2, Further 100000000 σ w S m u S1 m1 u' S2 m2 ∧ ∀ (ρ : Binds) (S' : Cells) (m' : Nat → Option MB), u'.1.le ρ → Keeps w S2 w S' → (∀ i v, m2 i = some v → m' i = some v) → ∀ t, RepV w S' (bindM ρ m') (lookE l x t) (tm.getD t undef)
  | [], u, u', x, S1, m1, h, he => by
    simp only [unE, Option.some.injEq, Prod.mk.injEq] at he
    obtain ⟨_, e⟩ := he
    subst e
    exact ⟨S1, m1, Further.refl h, fun _ _ _ _ _ _ t => .inl rfl⟩
  | [b], u, u', x, S1, m1, h, he => by
    simp only [unE] at he
    have hv := (henv b.1).keep h.step.keeps h.step.ext.maps
    rcases hv with hv | ⟨cs, hv1, hv2⟩
    · rw [unT_any he] at hv; cases hv
    · obtain ⟨⟨S2, m2, k1, k2⟩, k3, _⟩ := unT_ok h0 hnb h hv1 he
      refine ⟨S2, m2, k1, fun ρ S' m' q1 q2 q3 t => ?_⟩
      simp only [lookE]
      cases hb : Nat.beq t b.1 with
      | false => exact .inl rfl
      | true => rw [Nat.eq_of_beq_eq_true hb]; exact .inr ⟨cs, k2 ρ S' m' q1 q2 q3, by simp only [cond_true]; rw [← k3]; exact hv2⟩
  | b :: c :: r, u, u', x, S1, m1, h, he => by
    simp only [unE] at he
    obtain ⟨⟨v1, u1⟩, e1, he1⟩ := Option.bind_eq_some_iff.1 he
    obtain ⟨⟨v2, u2⟩, e2, he2⟩ := Option.map_eq_some_iff.1 he1
    clear he he1
    cases he2
    have hv := (henv b.1).keep h.step.keeps h.step.ext.maps
    rcases hv with hv | ⟨cs, hv1, hv2⟩
    · rw [unT_any e1] at hv; cases hv
    · obtain ⟨⟨S2, m2, k1, k2⟩, k3, _⟩ := unT_ok h0 hnb h hv1 e1
      obtain ⟨S3, m3, k4, k5⟩ := unE_ok h0 hnb henv k1.later e2
      refine ⟨S3, m3, k1.trans k4, fun ρ S' m' q1 q2 q3 t => ?_⟩
      simp only [lookE]
      cases hb : Nat.beq t b.1 with
      | false => exact k5 ρ S' m' q1 q2 q3 t
      | true => rw [Nat.eq_of_beq_eq_true hb]; exact .inr ⟨cs, k2.later k4 ρ S' m' q1 q2 q3, by simp only [cond_true]; rw [← k3]; exact hv2⟩

theorem keysB_find : ∀ {ρ : Binds} {k id : Nat} {p : List Step}, keysB ρ = true → ρ.find k = some (id, p) → k < 1000
  | [], _, _, _, _, h => by cases h
  | (j, b) :: r, k, id, p, hb, h => by
    obtain ⟨id', p'⟩ := b
    simp only [keysB, Bool.and_eq_true, Nat.blt_eq] at hb
    rw [find_cons] at h
    cases hkj : Nat.beq j k with
    | true => rw [← Nat.eq_of_beq_eq_true hkj]; exact hb.1
    | false => rw [hkj] at h; exact keysB_find hb.2 h
theorem plainB_keys : ∀ {ρ : Binds}, plainB ρ = true → keysB ρ = true
  | [], _ => rfl
  | (k, _, p) :: r, h => by
    simp only [plainB, Bool.and_eq_true] at h
    simp only [keysB, Bool.and_eq_true]
    exact ⟨h.1.1, plainB_keys h.2⟩

theorem bindM_big {ρ : Binds} {mf : Nat → Option MB} (h : keysB ρ = true) {i : Nat} (hi : 1000 ≤ i) : bindM ρ mf i = none := by
  unfold bindM
  split
  · rename_i id p q; have := keysB_find h q; omega
  · rfl

theorem Later.start {σ : Nat → Option Obj} (h0 : StoRel σ w S m) (l : List ObSk) (n : Nat) : Later 100000000 σ w S m (idBindsG l n, []) S m :=
  ⟨Step1.refl h0, More.refl _, fun i v q => .inl q, (fun i o q => by cases q), (fun i o q1 q2 => by have q2 : σ i = some o := q2; rw [q1] at q2; cases q2), fun q => absurd q (by omega)⟩

theorem stE_mk : ∀ (l : List (Nat × Sk)) (o : List ObSk) (x : EnvEl l) (y : ObsEl o), stE (mkSt l o x y) = x
  | _, [], _, _ => rfl | _, _ :: _, _, _ => rfl
theorem stO_mk : ∀ (l : List (Nat × Sk)) (o : List ObSk) (x : EnvEl l) (y : ObsEl o), stO (mkSt l o x y) = y
  | _, [], _, _ => rfl | _, _ :: _, _, _ => rfl

theorem atCut_ok (h : At C np O0 w0 S0 m0 s a w S m) {k : StSk} {y : StEl k} (he : unSt np k s = some y) : ∃ S' m', At C np O0 w0 S0 m0 (fillSt k y) a w S' m' := by
  unfold unSt at he
  obtain ⟨⟨x, u⟩, e1, he1⟩ := Option.bind_eq_some_iff.1 he
  obtain ⟨⟨ob, ρ, ups⟩, e2, he2⟩ := Option.bind_eq_some_iff.1 he1
  obtain ⟨hb, he3⟩ := bif_some he2
  clear he he1 he2
  cases he3
  simp only [Bool.and_eq_true] at hb
  obtain ⟨⟨⟨c1, c2⟩, c3⟩, c4, c5⟩ := hb
  have c4 := Nat.le_of_ble_eq_true c4
  have hk := plainB_keys c2
  have hr := h.rel
  have hnb : ∀ k, k < 500 → m (100000000 + k) = none := fun k _ => hr.top _ (by omega)
  obtain ⟨S1, m1, f1, henv⟩ := unE_ok hr.toStoRel hnb hr.env (Later.start hr.toStoRel k.objs np) e1
  obtain ⟨S2, m2, f2, htold⟩ := unOs_ok hr.toStoRel hnb f1.later e2
  obtain ⟨st, hown, _⟩ := un_final f2.later (fun j ob q => by have := htold j ob q; rwa [Nat.zero_add] at this) c1 c3
  have hown' : ∀ b y', OwnSt (objs0 (fillOs k.objs ob)) (bindM ρ m2) b y' → OwnSt (upds ups s.sto) m2 b y' := fun b y' q => (hown b y' q).st
  have hsame : ∀ i o, objs0 (fillOs k.objs ob) i = some o → patchM k.objs np ρ m2 i = bindM ρ m2 i := fun i o ho => by
    unfold patchM; rw [if_neg fun q => by rw [obAt_fill ho] at q; cases q.2]
  have hle : ∀ i u, bindM ρ m2 i = some u → patchM k.objs np ρ m2 i = some u := fun i u q => patchM_le c5 q
  have hbig : ∀ i, 1000 ≤ i → patchM k.objs np ρ m2 i = none := fun i hi => patchM_big hk c4 hi (bindM_big hk hi)
  refine ⟨S2, patchM k.objs np ρ m2, ⟨⟨?_, fun t => ?_, fun d _ _ => ⟨hbig _ (by omega), fun k _ => hbig _ (by omega)⟩, fun i hi => hbig _ (by omega)⟩, h.tm, h.ext.trans ?_, fun i u hi q => ?_⟩⟩
  · simp only [fillSt, stO_mk]; exact st.remap hle hsame
  · simp only [fillSt, stE_mk]; exact (henv ρ S2 m2 f2.le f2.keeps f2.maps t).keep (Keeps.refl ..) hle
  · simp only [fillSt, stO_mk]; exact (f2.later.step.ext.sub fun b y' q => hown' b y' (OwnSt.remap hsame q)).drop
  · have h0 := f2.maps _ _ (f1.maps _ _ (h.keep i u hi q))
    cases hg : isGone (obAt k.objs i) with
    | true => unfold patchM; rw [if_pos ⟨hi, hg⟩]; exact h0
    | false =>
      have h1 := f2.le _ _ (f1.le _ _ (idBindsG_find hg hi))
      exact hle _ _ (by simp [bindM, h1, h0, subM])

def Ex.to : Ex → Exit | .normal => .normal | .exit i => .exit i | .ret => .ret | .goto l => .goto l

theorem Ex.beq_eq {a b : Ex} (h : Ex.beq a b = true) : a = b := by
  cases a <;> cases b <;> simp [Ex.beq] at h <;> first | rfl | (rw [h])

theorem unOut_ok : ∀ {l : Outs} {e : Ex} {x : OutEl l}, unOut np l e s = some x → ∃ k y, unSt np k s = some y ∧ ∀ (R : Type) (κ : Ex → St → Option R), goOn l x κ = κ e (fillSt k y)
  | [], e, x, h => by cases h
  | [b], e, x, h => by
    simp only [unOut] at h
    obtain ⟨h1, h2⟩ := bif_some h
    have := Ex.beq_eq h1
    subst this
    exact ⟨b.2, x, h2, fun R κ => rfl⟩
  | b :: c :: r, e, x, h => by
    simp only [unOut] at h
    cases hb : Ex.beq e b.1 with
    | true =>
      rw [hb] at h
      obtain ⟨y, h2, e2⟩ := Option.map_eq_some_iff.1 h
      have := Ex.beq_eq hb
      subst this
      subst e2
      exact ⟨b.2, y, h2, fun R κ => rfl⟩
    | false =>
      rw [hb] at h
      obtain ⟨y, h2, e2⟩ := Option.map_eq_some_iff.1 h
      subst e2
      obtain ⟨k, z, h3, h4⟩ := unOut_ok h2
      exact ⟨k, z, h3, fun R κ => h4 R κ⟩

/-! ### A number told from here on -/
theorem split4_some {R : Type} {i : Int} {k : Int → Option R} {r : R} (h : split4 i k = some r) : k i = some r := by
  unfold split4 natK at h
  split at h
  · rename_i n
    match n, h with
    | 0, h => exact h
    | 1, h => exact h
    | 2, h => exact h
    | 3, h => exact h
    | n + 4, h => cases h
  · cases h

theorem splice_self {cs : List Value} {off n : Nat} (h : off + n ≤ cs.length) : splice cs off ((cs.drop off).take n) = cs := by
  apply List.ext_getElem?
  intro j
  have hl : ((cs.drop off).take n).length = n := by simp; omega
  unfold splice
  rw [hl]
  by_cases h1 : j < off
  · rw [List.getElem?_append_left (by simp; omega), List.getElem?_take]; simp [h1]
  · rw [List.getElem?_append_right (by simp; omega), List.length_take, show min off cs.length = off by omega]
    by_cases h2 : j < off + n
    · rw [List.getElem?_append_left (by omega), List.getElem?_take, if_pos (by omega), List.getElem?_drop]; congr 1; omega
    · rw [List.getElem?_append_right (by omega), hl, List.getElem?_drop]; congr 1; omega

theorem splitSt_ok (h : At C np O0 w0 S0 m0 s a w S m) {R : Type} {v : Nat × Option (List Nat)} {κ : St → Option R} {r : R} (he : splitSt v s κ = some r) : ∃ s', κ s' = some r ∧ At C np O0 w0 S0 m0 s' a w S m := by
  unfold splitSt at he
  split at he
  · split at he
    · rename_i kd x hs
      have := split4_some he
      rw [put_same hs] at this
      exact ⟨s, this, h⟩
    · cases he
  · rename_i p _
    split at he
    case h_2 => cases he
    rename_i id hs
    split at he
    case h_2 => cases he
    rename_i c u ho
    obtain ⟨hb, he⟩ := bif_some he
    obtain ⟨d, hd⟩ : ∃ d, codeAt c (p.map .fld) = some d := by
      cases hq : codeAt c (p.map .fld) with
      | none => rw [hq] at hb; cases hb
      | some d => exact ⟨d, rfl⟩
    obtain ⟨mu, hm, g0, g1, g2, cs, g3, g4, g5, g6⟩ := h.rel.sto _ _ ho
    obtain ⟨y, hk, hyf, hyr, hle⟩ := getT_ok g2 g4 hd he
    split at hk
    case h_2 => cases hk
    rename_i kd x
    have hk := split4_some hk
    have hcl := RepC.length g2 g4
    obtain ⟨y, hk, hl, hyf', hy⟩ := setT_ok g2 hd hyr hk
    obtain ⟨hy1, hy2⟩ := hy cs g4
    rw [splice_self (by omega)] at hy1
    refine ⟨_, hk, ?_⟩
    have st : StoRel (s.upd id (some (.cell c false y))).sto w S m := by
      refine ⟨fun i o hi => ?_, fun i j o o' u v hij h1 h2 hu hv b x' hx hy' => ?_, fun i o u h1 hu b x' hs' hx => ?_, h.rel.live⟩
      · by_cases e : i = id
        · subst e
          have hi : (bif Nat.beq i i then some (Obj.cell c false y) else s.sto i) = some o := hi
          rw [upd_eq] at hi; cases hi
          exact ⟨mu, hm, g0, g1, hyf', cs, g3, hy1, g5, g6⟩
        · have hi : (bif Nat.beq i id then some (Obj.cell c false y) else s.sto i) = some o := hi
          rw [upd_ne e] at hi
          exact h.rel.sto i o hi
      · obtain ⟨o1, e1, k1⟩ : ∃ o1, s.sto i = some o1 ∧ (Own u o b x' → Own u o1 b x') := by
          by_cases e : i = id
          · subst e
            have h1 : (bif Nat.beq i i then some (Obj.cell c false y) else s.sto i) = some o := h1
            rw [upd_eq] at h1; cases h1
            exact ⟨_, ho, fun q => q⟩
          · have h1 : (bif Nat.beq i id then some (Obj.cell c false y) else s.sto i) = some o := h1
            rw [upd_ne e] at h1
            exact ⟨o, h1, fun q => q⟩
        obtain ⟨o2, e2, k2⟩ : ∃ o2, s.sto j = some o2 ∧ (Own v o' b x' → Own v o2 b x') := by
          by_cases e : j = id
          · subst e
            have h2 : (bif Nat.beq j j then some (Obj.cell c false y) else s.sto j) = some o' := h2
            rw [upd_eq] at h2; cases h2
            exact ⟨_, ho, fun q => q⟩
          · have h2 : (bif Nat.beq j id then some (Obj.cell c false y) else s.sto j) = some o' := h2
            rw [upd_ne e] at h2
            exact ⟨o', h2, fun q => q⟩
        exact h.rel.apart i j o1 o2 u v hij e1 e2 hu hv b x' (k1 hx) (k2 hy')
      · by_cases e : i = id
        · subst e
          have h1 : (bif Nat.beq i i then some (Obj.cell c false y) else s.sto i) = some o := h1
          rw [upd_eq] at h1; cases h1
          exact h.rel.stab i _ u ho hu b x' hs' hx
        · have h1 : (bif Nat.beq i id then some (Obj.cell c false y) else s.sto i) = some o := h1
          rw [upd_ne e] at h1
          exact h.rel.stab i o u h1 hu b x' hs' hx
    refine ⟨⟨st, h.rel.env, h.rel.fresh, h.rel.top⟩, h.tm, h.ext.sub fun b x' ⟨i, o, u, h1, hu, hx⟩ => ?_, h.keep⟩
    by_cases e : i = id
    · subst e
      have h1 : (bif Nat.beq i i then some (Obj.cell c false y) else s.sto i) = some o := h1
      rw [upd_eq] at h1; cases h1
      exact ⟨i, _, u, ho, hu, hx⟩
    · have h1 : (bif Nat.beq i id then some (Obj.cell c false y) else s.sto i) = some o := h1
      rw [upd_ne e] at h1
      exact ⟨i, o, u, h1, hu, hx⟩
end

/-! ### Code -/
/-- Code keeps what is said of it. -/
def CodeOk (P : Program) (C : Ctx) (np : Nat) (c : Code) (g : Given) : Prop :=
  ∀ (O0 : Cells) (w0 : World) (S0 : Cells) (m0 : Nat → Option MB) (v : StEl g.hd) (x : OutEl g.outs) (a : Act) (w : World) (S : Cells) (m : Nat → Option MB), g.G v = some x → At C np O0 w0 S0 m0 (fillSt g.hd v) a w S m →
    ∀ (Q : Exit → Act → World → Prop), (∀ e s' a' w' S' m', (∀ (R : Type) (κ : Ex → St → Option R), goOn g.outs x κ = κ e s') → At C np O0 w0 S0 m0 s' a' w' S' m' → Q e.to a' w') → c.wp P Q a w

/-- All code of a function that is shown by hand. -/
def GivenIn (P : Program) (C : Ctx) (q : Cuts) : Code → Prop
  | .region i ops d => ∀ g, q.given 3 i = some g → CodeOk P C q.np (.region i ops d) g
  | .seq a b => GivenIn P C q a ∧ GivenIn P C q b
  | .cond _ a b => GivenIn P C q a ∧ GivenIn P C q b
  | .block _ c => GivenIn P C q c
  | .loop c => (∀ i g, firstRegion c = some i → q.given 0 i = some g → CodeOk P C q.np (.loop c) g) ∧ GivenIn P C q c
  | .rangeFunc f ps a b => ∀ i g, (firstRegion a).or (firstRegion b) = some i → q.given 1 i = some g → CodeOk P C q.np (.rangeFunc f ps a b) g
  | .scope c => ∀ i g, firstRegion c = some i → q.given 2 i = some g → CodeOk P C q.np (.scope c) g
  | _ => True

theorem GivenIn.none (h : ∀ k i, q.given k i = none) : ∀ c, GivenIn P C q c
  | .region i ops d => fun g e => by rw [h] at e; cases e
  | .seq a b => ⟨GivenIn.none h a, GivenIn.none h b⟩
  | .cond _ a b => ⟨GivenIn.none h a, GivenIn.none h b⟩
  | .block _ c => GivenIn.none h c
  | .loop c => ⟨fun i g _ e => (by rw [h] at e; cases e), GivenIn.none h c⟩
  | .rangeFunc f ps a b => fun i g _ e => by rw [h] at e; cases e
  | .scope c => fun i g _ e => by rw [h] at e; cases e
  | .skip => trivial
  | .exit _ => trivial
  | .label _ => trivial
  | .goto _ => trivial
  | .ret => trivial
  | .refuse _ => trivial

theorem givenK_ok {kind : Nat} {i : Option Nat} {c : Code} {R : Type} {s : St} {k : Ex → St → Option R} {r : R} (hg : ∀ j g, i = some j → q.given kind j = some g → CodeOk P C q.np c g) (he : givenK q kind i s k = some r)
    {O0 : Cells} {w0 : World} {S0 : Cells} {m0 : Nat → Option MB} {a : Act} {w : World} {S : Cells} {m : Nat → Option MB} (h : At C q.np O0 w0 S0 m0 s a w S m)
    (Q : Exit → Act → World → Prop) (hQ : ∀ e s' a' w' S' m', k e s' = some r → At C q.np O0 w0 S0 m0 s' a' w' S' m' → Q e.to a' w') : c.wp P Q a w := by
  unfold givenK at he
  split at he
  · cases he
  rename_i j
  split at he
  · cases he
  rename_i g hgj
  obtain ⟨v, h1, he1⟩ := Option.bind_eq_some_iff.1 he
  obtain ⟨x, h2, h3⟩ := Option.bind_eq_some_iff.1 he1
  obtain ⟨S1, m1, hA⟩ := atCut_ok h h1
  exact hg j g rfl hgj O0 w0 S0 m0 v x a w S1 m1 h2 hA Q fun e s' a' w' S' m' g1 g2 => hQ e s' a' w' S' m' ((g1 R k).symm.trans h3) g2

theorem eval_ok (hC : CtxOk P C) (hm : P.follows .mixedOrders = true) {O0 : Cells} {w0 : World} {S0 : Cells} {m0 : Nat → Option MB} : ∀ (c : Code), GivenIn P C q c → ∀ {R : Type} {s : St} {k : Ex → St → Option R} {r : R}, eval C q c s k = some r →
    ∀ {a : Act} {w : World} {S : Cells} {m : Nat → Option MB}, At C q.np O0 w0 S0 m0 s a w S m → ∀ (Q : Exit → Act → World → Prop), (∀ e s' a' w' S' m', k e s' = some r → At C q.np O0 w0 S0 m0 s' a' w' S' m' → Q e.to a' w') → c.wp P Q a w := by
  intro c
  induction c with
  | skip => intro hG R s k r he a w S m h Q hQ; exact wp_skip (hQ .normal s a w S m he h)
  | region i ops d =>
    intro hG R s k r he a w S m h Q hQ
    simp only [eval] at he
    split at he
    · rename_i g hgi
      exact givenK_ok (kind := 3) (i := some i) (k := k) (fun j g e hj => by cases e; exact hG g hj) (by unfold givenK; simp only [hgi]; exact he) h Q hQ
    split at he
    · exact region_ok hC hm h.rel h.tm he fun s' a' w' S' m' h1 h2 h3 h4 => hQ .normal s' a' w' S' m' h1 (h.step h2 h3 h4)
    · obtain ⟨s1, he, h1⟩ := splitSt_ok h he
      exact region_ok hC hm h1.rel h1.tm he fun s' a' w' S' m' g1 g2 g3 g4 => hQ .normal s' a' w' S' m' g1 (h1.step g2 g3 g4)
  | seq x y ihx ihy =>
    intro hG R s k r he a w S m h Q hQ
    have cont : ∀ {e : Ex} {s' : St} {a' : Act} {w' : World} {S' : Cells} {m' : Nat → Option MB}, (match e with | .normal => eval C q y s' k | .exit i => k (.exit i) s' | .ret => k .ret s' | .goto l => k (.goto l) s') = some r → At C q.np O0 w0 S0 m0 s' a' w' S' m' →
        Exit.then (y.wp P Q) Q e.to a' w' := by
      intro e s' a' w' S' m' he h
      cases e with
      | normal => exact ihy hG.2 he h Q hQ
      | exit i => exact hQ (.exit i) _ _ _ _ _ he h
      | ret => exact hQ .ret _ _ _ _ _ he h
      | goto l => exact hQ (.goto l) _ _ _ _ _ he h
    simp only [eval] at he
    split at he
    · exact wp_seq (ihx hG.1 he h _ fun e s' a' w' S' m' h1 h2 => cont h1 h2)
    · rename_i l _
      obtain ⟨x1, h1, h2⟩ := Option.bind_eq_some_iff.1 he
      refine wp_seq (ihx hG.1 h1 h _ fun e s' a' w' S' m' h3 h4 => ?_)
      obtain ⟨kk, yy, h5, h6⟩ := unOut_ok h3
      obtain ⟨S2, m2, h7⟩ := atCut_ok h4 h5
      rw [h6] at h2
      exact cont h2 h7
  | cond c x y ihx ihy =>
    intro hG R s k r he a w S m h Q hQ
    simp only [eval] at he
    split at he
    case h_2 => cases he
    rename_i p hp
    have hv := repV_bool (opnd_ok h.rel hp)
    cases p with
    | true => exact wp_cond hv (ihx hG.1 he h Q hQ)
    | false => exact wp_cond hv (ihy hG.2 he h Q hQ)
  | block id x ih =>
    intro hG R s k r he a w S m h Q hQ
    simp only [eval] at he
    refine wp_block (ih hG he h _ fun e s' a' w' S' m' h1 h2 => ?_)
    cases e with
    | normal => exact hQ .normal _ _ _ _ _ h1 h2
    | ret => exact hQ .ret _ _ _ _ _ h1 h2
    | goto l => exact hQ (.goto l) _ _ _ _ _ h1 h2
    | exit i =>
      simp only [Ex.to, Exit.inBlock]
      by_cases hi : i = id
      · subst hi
        simp only [Nat.beq_refl, cond_true] at h1
        simp only [if_true]
        exact hQ .normal _ _ _ _ _ h1 h2
      · have : Nat.beq i id = false := by cases hb : Nat.beq i id with
          | false => rfl
          | true => exact absurd (Nat.eq_of_beq_eq_true hb) hi
        simp only [this, cond_false] at h1
        simp only [hi, if_false]
        exact hQ (.exit i) _ _ _ _ _ h1 h2
  | loop x ih =>
    intro hG R s k r he a w S m h Q hQ
    simp only [eval] at he
    split at he
    · exact givenK_ok hG.1 he h Q hQ
    rename_i hd l _
    obtain ⟨v, h1, he1⟩ := Option.bind_eq_some_iff.1 he
    obtain ⟨z, h2, h3⟩ := Option.bind_eq_some_iff.1 he1
    clear he he1
    obtain ⟨S1, m1, hA⟩ := atCut_ok h h1
    refine wp_loop_rounds loopN ?_
    have key : ∀ (n : Nat) (v : StEl hd) (a : Act) (w : World) (S : Cells) (m : Nat → Option MB), iterL (fun v => eval C q x (fillSt hd v) (roundK q.np hd l)) n v = some z → At C q.np O0 w0 S0 m0 (fillSt hd v) a w S m → Code.rounds P x Q n a w := by
      intro n
      induction n with
      | zero => intro v a w S m h _; cases h
      | succ n ihn =>
        intro v a w S m hit hA
        simp only [iterL] at hit
        split at hit
        · cases hit
        · rename_i v' hv'
          refine ih hG.2 hv' hA _ fun e s' a' w' S' m' g1 g2 => ?_
          cases e with
          | normal =>
            obtain ⟨y, g3, e⟩ := Option.map_eq_some_iff.1 g1
            cases e
            obtain ⟨S2, m2, g4⟩ := atCut_ok g2 g3
            exact ihn _ _ _ _ _ hit g4
          | exit i => obtain ⟨y, g3, e⟩ := Option.map_eq_some_iff.1 g1; cases e
          | ret => obtain ⟨y, g3, e⟩ := Option.map_eq_some_iff.1 g1; cases e
          | goto l => obtain ⟨y, g3, e⟩ := Option.map_eq_some_iff.1 g1; cases e
        · rename_i z' hz'
          cases hit
          refine ih hG.2 hz' hA _ fun e s' a' w' S' m' g1 g2 => ?_
          have out : (unOut q.np l e s').map (Sum.inr (α := StEl hd)) = some (Sum.inr z) → Q e.to a' w' := fun g1 => by
            obtain ⟨y, g3, e2⟩ := Option.map_eq_some_iff.1 g1
            cases e2
            obtain ⟨kk, yy, g4, g5⟩ := unOut_ok g3
            obtain ⟨S2, m2, g6⟩ := atCut_ok g2 g4
            rw [g5] at h3
            exact hQ _ _ _ _ _ _ h3 g6
          cases e with
          | normal => obtain ⟨y, g3, e⟩ := Option.map_eq_some_iff.1 g1; cases e
          | exit i => exact out g1
          | ret => exact out g1
          | goto l => exact out g1
    exact key loopN v a w S1 m1 h2 hA
  | exit id => intro hG R s k r he a w S m h Q hQ; exact wp_exit (hQ (.exit id) s a w S m he h)
  | ret => intro hG R s k r he a w S m h Q hQ; exact wp_ret (hQ .ret s a w S m he h)
  | label l => intro hG R s k r he a w S m h Q hQ; exact wp_label (hQ .normal s a w S m he h)
  | goto l => intro hG R s k r he a w S m h Q hQ; exact wp_goto (hQ (.goto l) s a w S m he h)
  | rangeFunc f ps x y => intro hG R s k r he a w S m h Q hQ; simp only [eval] at he; exact givenK_ok hG he h Q hQ
  | scope c => intro hG R s k r he a w S m h Q hQ; simp only [eval] at he; exact givenK_ok hG he h Q hQ
  | _ => intro hG R s k r he; simp only [eval] at he; cases he
end
end Go.Proofs.D
