/- m[k] = append(m[k], v): a map of slices that a loop fills. -/
import Derived.Test.YtgcecbkmmcgfkaaDEnt
set_option linter.unusedVariables false
set_option linter.unusedSimpArgs false
namespace Go.Proofs.D
open Go.RowKit

/-! ### States of which some objects are not written out -/
def stoR (O : List (Nat × Obj)) (ρ : Nat → Option Obj) : Nat → Option Obj := fun i => match stoL O i with | some o => some o | none => ρ i
def mkR (E : List (Nat × T)) (O : List (Nat × Obj)) (ρ : Nat → Option Obj) (d : List Nat) : St := { env := envL E, sto := stoR O ρ, done := fun x => elemN x d }
def factR (ke ko : List Nat) (sF : St) : (List T × List (Option Obj) × (Nat → Bool)) × (Nat → Option Obj) := (facts ke ko sF, fun j : Nat => sF.sto (j + 100000))
def toldR (E : List (Nat × T)) (O : List (Nat × Obj)) (ρ : Nat → Option Obj) (d : List Nat) : (List T × List (Option Obj) × (Nat → Bool)) × (Nat → Option Obj) := (told E O d, fun j : Nat => ρ (j + 100000))

section
variable {P : Program} {C C1 : Ctx} {s s' : St} {a a' : Act} {w w' : World} {S S' : Cells} {m m' : Nat → Option MB} {O0 : Cells} {w0 : World} {S0 : Cells} {m0 : Nat → Option MB} {lr : Option Nat} {n : Nat}

theorem told_in {E' : List (Nat × T)} {O' : List (Nat × Obj)} {ρ' : Nat → Option Obj} {d' ke ko : List Nat} (hke : E'.map (·.1) = ke) (hko : O'.map (·.1) = ko) (hρ : ∀ i o, ρ' i = some o → 100000 ≤ i) {tm : Array Value}
    (k1 : some (factR ke ko s') = some (toldR E' O' ρ' d')) (k2 : Rel s' tm w S m) : Rel (mkR E' O' ρ' d') tm w S m ∧ ∀ i o, (mkR E' O' ρ' d').sto i = some o → s'.sto i = some o := by
  simp only [factR, toldR, facts, told, Option.some.injEq, Prod.mk.injEq] at k1
  obtain ⟨⟨g1, g2, g3⟩, g4⟩ := k1
  subst hke; subst hko
  rw [List.map_map] at g1 g2
  have hs0 : ∀ i o, stoL O' i = some o → s'.sto i = some o := stoL_le (map_at (f := s'.sto ∘ fun p : Nat × Obj => p.1) (g := fun p => some p.2) g2)
  have hs : ∀ i o, (mkR E' O' ρ' d').sto i = some o → s'.sto i = some o := fun i o h => by
    have h : stoR O' ρ' i = some o := h
    unfold stoR at h
    cases hq : stoL O' i with
    | some p => rw [hq] at h; cases h; exact hs0 i o hq
    | none =>
      rw [hq] at h
      have hi := hρ i o h
      have := congrFun g4 (i - 100000)
      rw [Nat.sub_add_cancel hi] at this
      exact this.trans h
  exact ⟨k2.weaken (envL_or (map_at (f := s'.env ∘ fun p : Nat × T => p.1) (g := fun p => p.2) g1)) hs (fun x hx => by rw [g3]; exact hx), hs⟩

theorem At.opsS (hC : CtxOk P C1) (hn : C1.n = C.n) {L : List Deferred} {Q : Exit → Act → World → Prop} {ops : Array Oper} {rest : List Nat} {l : List Oper} {k : Nat} (hl : ∀ j x, l[j]? = some x → ops[k + j]? = some x) {E' : List (Nat × T)} {O' : List (Nat × Obj)} {ρ' : Nat → Option Obj} {d' ke ko : List Nat}
    (h : At C 0 O0 w0 S0 m0 s a w S m) (hke : E'.map (·.1) = ke) (hko : O'.map (·.1) = ko) (hρ : ∀ i o, ρ' i = some o → 100000 ≤ i) (he : evalOps C1 ops.toList l s (fun sF => some (factR ke ko sF)) = some (toldR E' O' ρ' d'))
    (hQ : ∀ a' w' S' m', At C 0 O0 w0 S0 m0 (mkR E' O' ρ' d') a' w' S' m' → Keeps w S w' S' → (∀ i u, m i = some u → m' i = some u) → Ext (OwnSt s.sto m) w S m w' S' m' (OwnSt (mkR E' O' ρ' d').sto m') → Same a a' l → wpOpsIn (Fr lr) n P ops Q rest (withD L a') w') :
    wpOpsIn (Fr lr) n P ops Q (List.range' k l.length ++ rest) (withD L a) w := by
  have hT : TmOk C1 a := ⟨h.tm.1.trans hn.symm, h.tm.2⟩
  refine evalOps_in hC rfl l k hl h.rel hT he fun s' a' w' S' m' k1 k2 k3 k4 k5 => ?_
  obtain ⟨hr', hs⟩ := told_in hke hko hρ k1 k2
  have hx : Ext (OwnSt s.sto m) w S m w' S' m' (OwnSt (mkR E' O' ρ' d').sto m') := k4.sub fun b x => OwnSt.weaken hs
  exact hQ a' w' S' m' (h.step hr' ⟨k3.1.trans hn, k3.2⟩ hx) (Keeps.of_ext h.rel.toStoRel hx) hx.maps hx k5

theorem At.opsR (hC : CtxOk P C1) (hn : C1.n = C.n) {L : List Deferred} {Q : Exit → Act → World → Prop} {ops : Array Oper} {rest : List Nat} {l : List Oper} {k : Nat} (hl : ∀ j x, l[j]? = some x → ops[k + j]? = some x) {E' : List (Nat × T)} {O' : List (Nat × Obj)} {ρ' : Nat → Option Obj} {d' ke ko : List Nat}
    (h : At C 0 O0 w0 S0 m0 s a w S m) (hke : E'.map (·.1) = ke) (hko : O'.map (·.1) = ko) (hρ : ∀ i o, ρ' i = some o → 100000 ≤ i) (he : evalOps C1 ops.toList l s (fun sF => some (factR ke ko sF)) = some (toldR E' O' ρ' d'))
    (hQ : ∀ a' w' S' m', At C 0 O0 w0 S0 m0 (mkR E' O' ρ' d') a' w' S' m' → Keeps w S w' S' → (∀ i u, m i = some u → m' i = some u) → Ext (OwnSt s.sto m) w S m w' S' m' (OwnSt (mkR E' O' ρ' d').sto m') → wpOpsIn (Fr lr) n P ops Q rest (withD L a') w') :
    wpOpsIn (Fr lr) n P ops Q (List.range' k l.length ++ rest) (withD L a) w :=
  At.opsS hC hn hl h hke hko hρ he fun a' w' S' m' h1 h2 h3 h4 _ => hQ a' w' S' m' h1 h2 h3 h4

theorem At.regR (hC : CtxOk P C1) (hn : C1.n = C.n) {L : List Deferred} {Q : Exit → Act → World → Prop} {id : Nat} {ops : Array Oper} {E' : List (Nat × T)} {O' : List (Nat × Obj)} {ρ' : Nat → Option Obj} {d' ke ko : List Nat}
    (h : At C 0 O0 w0 S0 m0 s a w S m) (hke : E'.map (·.1) = ke) (hko : O'.map (·.1) = ko) (hρ : ∀ i o, ρ' i = some o → 100000 ≤ i) (he : evalReg C1 false ops.toList s (fun sF => some (factR ke ko sF)) = some (toldR E' O' ρ' d'))
    (hQ : ∀ a' w' S' m', At C 0 O0 w0 S0 m0 (mkR E' O' ρ' d') a' w' S' m' → Keeps w S w' S' → (∀ i u, m i = some u → m' i = some u) → Ext (OwnSt s.sto m) w S m w' S' m' (OwnSt (mkR E' O' ρ' d').sto m') → Q .normal (withD L a') w') :
    (Code.region id ops false).wpIn (Fr lr) n P Q (withD L a) w := by
  refine wpIn_region ?_
  have := At.opsR (P := P) (lr := lr) (n := n) (L := L) (Q := Q) hC hn (ops := ops) (rest := []) (l := ops.toList) (k := 0) (fun j x q => by rw [Nat.zero_add, ← Array.getElem?_toList]; exact q) h hke hko hρ he hQ
  rwa [Array.length_toList, List.append_nil, ← List.range_eq_range'] at this

/-- Objects get other numbers, some are forgotten; the slots are told anew. -/
theorem At.ren (h : At C 0 O0 w0 S0 m0 s a w S m) (f : Nat → Nat) (hinj : ∀ i j o p, s'.sto i = some o → s'.sto j = some p → f i = f j → i = j)
    (hs : ∀ i o, s'.sto i = some o → s.sto (f i) = some o ∧ m' i = m (f i) ∧ o.closed = true) (hT : TmOk C a') (henv : ∀ t, RepV w S m' (s'.env t) (a'.tmps.getD t undef))
    (hfr : ∀ d, d < 99000 → s'.done d = false → m' (1000 + d) = none) (hfr2 : ∀ i, 1000000 ≤ i → m' i = none) : At C 0 O0 w0 S0 m0 s' a' w S m' := by
  refine ⟨⟨⟨fun i o ho => ?_, fun i j o p u v hij ho hp hu hv b x hx hy => ?_, fun i o u ho hu b x hb hx => ?_, h.rel.live⟩, henv, fun d hd hn => ⟨hfr d hd hn, fun k _ => hfr2 _ (by omega)⟩, fun i hi => hfr2 i (by omega)⟩, hT,
    h.ext.sub fun b x ⟨i, o, u, h1, h2, h3⟩ => ?_, fun i u hi => absurd hi (Nat.not_lt_zero _)⟩
  · obtain ⟨k1, k2, k3⟩ := hs i o ho
    obtain ⟨u, g1, g2⟩ := h.rel.sto _ _ k1
    exact ⟨u, by rw [k2]; exact g1, g2.closed k3⟩
  · obtain ⟨k1, k2, k3⟩ := hs i o ho
    obtain ⟨l1, l2, l3⟩ := hs j p hp
    exact h.rel.apart (f i) (f j) o p u v (fun e => hij (hinj i j o p ho hp e)) k1 l1 (by rw [← k2]; exact hu) (by rw [← l2]; exact hv) b x hx hy
  · obtain ⟨k1, k2, k3⟩ := hs i o ho
    exact h.rel.stab (f i) o u k1 (by rw [← k2]; exact hu) b x hb hx
  · obtain ⟨k1, k2, k3⟩ := hs i o h1
    exact ⟨f i, o, u, k1, by rw [← k2]; exact h2, h3⟩

/-- A step that no code makes. -/
theorem At.ghostR (h : At C 0 O0 w0 S0 m0 s a w S m) (st : Step1 s.sto w S m s'.sto w S' m') (hT : TmOk C a') (henv : ∀ t, RepV w S' m' (s'.env t) (a'.tmps.getD t undef))
    (hfr : ∀ d, d < 99000 → s'.done d = false → m' (1000 + d) = none ∧ ∀ k, k < 1000 → m' (1000000 + 1000 * d + k) = none) (htop : ∀ i, 100000000 ≤ i → m' i = none) : At C 0 O0 w0 S0 m0 s' a' w S' m' :=
  ⟨⟨st.rel, henv, hfr, htop⟩, hT, h.ext.trans st.ext.drop, fun i u hi => absurd hi (Nat.not_lt_zero _)⟩

/-- Some objects are forgotten. -/
theorem StoRel.less {σ σ' : Nat → Option Obj} (h : StoRel σ w S m) (hs : ∀ i o, σ' i = some o → σ i = some o) : Step1 σ w S m σ' w S m :=
  ⟨⟨fun i o ho => h.sto i o (hs i o ho), fun i j o p u v hij ho hp hu hv => h.apart i j o p u v hij (hs i o ho) (hs j p hp) hu hv, fun i o u ho hu => h.stab i o u (hs i o ho) hu, h.live⟩,
    Keeps.refl .., (Ext.refl (OwnSt σ m) w S m).sub fun b x => OwnSt.weaken hs⟩

/-- An object gets a new number. -/
theorem StoRel.move {σ : Nat → Option Obj} (h : StoRel σ w S m) {id i1 : Nat} {u : MB} {o : Obj} (hs : σ id = some o) (hu : m id = some u) (h1 : m i1 = none) (hc : o.closed = true) :
    Step1 σ w S m (fun i => bif Nat.beq i id then none else bif Nat.beq i i1 then some o else σ i) w S (putM1 m i1 u) := by
  have hne : id ≠ i1 := fun e => by rw [e, h1] at hu; cases hu
  have hn1 : σ i1 = none := by
    cases hq : σ i1 with
    | none => rfl
    | some p => obtain ⟨v, g1, _⟩ := h.sto i1 p hq; rw [h1] at g1; cases g1
  -- each object of the new ones is one of the old ones
  have old : ∀ i p, (bif Nat.beq i id then none else bif Nat.beq i i1 then some o else σ i) = some p → (i = i1 ∧ p = o) ∨ (i ≠ i1 ∧ i ≠ id ∧ σ i = some p) := fun i p hp => by
    by_cases e : i = id
    · subst e; rw [upd_eq] at hp; cases hp
    rw [upd_ne e] at hp
    by_cases e1 : i = i1
    · subst e1; rw [upd_eq] at hp; cases hp; exact .inl ⟨rfl, rfl⟩
    rw [upd_ne e1] at hp
    exact .inr ⟨e1, e, hp⟩
  have hmi : ∀ i, i ≠ i1 → putM1 m i1 u i = m i := fun i e => by unfold putM1; rw [if_neg e]
  obtain ⟨u', g1, g2⟩ := h.sto id o hs
  rw [hu] at g1; cases g1
  refine ⟨⟨fun i p hp => ?_, fun i j p q v v' hij hp hq hv hv' b x hx hy => ?_, fun i p v hp hv b x hb hx => ?_, h.live⟩, ⟨fun _ _ q => q, fun _ _ _ _ q => q⟩, ⟨rfl, Tape.refl _, rfl, Nat.le_refl _, putM1_old h1, fun _ _ q => q, fun _ _ q => .inl q, fun b x ⟨i, p, v, hp, hv, hx⟩ => ?_, fun _ _ _ _ => ⟨rfl, rfl⟩, fun _ _ _ => rfl⟩⟩
  · rcases old i p hp with ⟨e, e'⟩ | ⟨e1, e2, hp⟩
    · subst e; subst e'; exact ⟨u, putM1_new, g2.closed hc⟩
    · obtain ⟨v, g3, g4⟩ := h.sto i p hp
      exact ⟨v, putM1_old h1 _ _ g3, g4.keep ⟨fun _ _ q => q, fun _ _ _ _ q => q⟩ (putM1_old h1) (fun _ _ _ => ⟨rfl, rfl⟩) fun _ => rfl⟩
  · rcases old i p hp with ⟨e, e'⟩ | ⟨e1, e2, hp'⟩
    · rcases old j q hq with ⟨f, f'⟩ | ⟨f1, f2, hq'⟩
      · exact hij (e.trans f.symm)
      · subst e; subst e'
        rw [putM1_new] at hv; cases hv
        rw [hmi j f1] at hv'
        exact h.apart id j p q u v' (fun z => f2 z.symm) hs hq' hu hv' b x hx hy
    · rcases old j q hq with ⟨f, f'⟩ | ⟨f1, f2, hq'⟩
      · subst f; subst f'
        rw [putM1_new] at hv'; cases hv'
        rw [hmi i e1] at hv
        exact h.apart i id p q v u e2 hp' hs hv hu b x hx hy
      · rw [hmi i e1] at hv; rw [hmi j f1] at hv'
        exact h.apart i j p q v v' hij hp' hq' hv hv' b x hx hy
  · rcases old i p hp with ⟨e, e'⟩ | ⟨e1, e2, hp⟩
    · subst e; subst e'
      rw [putM1_new] at hv; cases hv
      exact h.stab id p u hs hu b x hb hx
    · rw [hmi i e1] at hv
      exact h.stab i p v hp hv b x hb hx
  · rcases old i p hp with ⟨e, e'⟩ | ⟨e1, e2, hp⟩
    · subst e; subst e'
      rw [putM1_new] at hv; cases hv
      exact .inl ⟨id, p, u, hs, hu, hx⟩
    · rw [hmi i e1] at hv
      exact .inl ⟨i, p, v, hp, hv, hx⟩

/-- A block of the call's own that is no cells turns: At.grown, where the call was handed it. -/
theorem At.mapSet (h : At C 0 O0 w0 S0 m0 s a w S m) (hm : ∀ i o, s.sto i = some o → o.isMap = false) {b : Nat} {fs fs' : Array MapEntry} {clock clock' : Nat} (hb : w.heap[b]? = some (.map fs clock)) (hbO : (∀ x, O0 b x) ∨ w0.heap.size ≤ b) :
    At C 0 O0 w0 S0 m0 s a (mapAt w b fs' clock') S m ∧ Keeps w S (mapAt w b fs' clock') S ∧ (mapAt w b fs' clock').heap[b]? = some (.map fs' clock') := by
  obtain ⟨q1, q2⟩ := MapKept.heap_set (o' := .map fs' clock') hb
  have hg : Gr w (mapAt w b fs' clock') (some b) := ⟨⟨rfl, rfl, rfl, by simp [mapAt], fun k _ hk => q2 k fun e => hk (by rw [e])⟩, Nat.le_refl _⟩
  have hr' : ∀ r, some b = some r → ∃ o, w.heap[r]? = some o ∧ o.isCells = false := fun r e => by cases e; exact ⟨_, hb, rfl⟩
  have hk : Keeps w S (mapAt w b fs' clock') S := ⟨fun _ _ q => q, fun b o v _ hv => by rw [World.cell?_of_block (a := ⟨b, o, none⟩) (grown_cell hg hr' hv)]; exact hv⟩
  refine ⟨?_, hk, q1⟩
  have hown : ∀ i o u b' x, s.sto i = some o → ObjOk w S m u o → Own u o b' x → (mapAt w b fs' clock').heap[b']? = w.heap[b']? := fun i o u b' x hs ho hx => by
    cases o with
    | cell c fz t =>
      obtain ⟨-, -, hf, cs, h1, h2, -⟩ := ho
      obtain ⟨-, hb, h3, h4⟩ := hx
      subst hb
      have hl := RepC.length hf h2
      obtain ⟨v, hv⟩ : ∃ v, cs[x - u.o]? = some v := ⟨cs[x - u.o]'(by omega), List.getElem?_eq_getElem (by omega)⟩
      exact grown_cell hg hr' (h1 _ v hv)
    | row e sh l =>
      obtain ⟨A, cap, -, -, -, -, -, -, h2⟩ := ho
      have hb : b' = u.b := by obtain ⟨n, cap, a, _, hb, _⟩ := hx; exact hb
      subst hb
      obtain ⟨v, hv⟩ := Option.isSome_iff_exists.1 (h2 x hx).1
      exact grown_cell hg hr' hv
    | map kc vc es => have := hm i _ hs; cases this
  refine ⟨⟨⟨fun i o ho => ?_, h.rel.apart, h.rel.stab, fun b x hs => Nat.lt_of_lt_of_le (h.rel.live b x hs) hg.size⟩, fun t => (h.rel.env t).keep hk fun _ _ q => q, h.rel.fresh, h.rel.top⟩, h.tm, ?_, h.keep⟩
  · obtain ⟨u, h1, h2⟩ := h.rel.sto i o ho
    refine ⟨u, h1, h2.keep hk (fun _ _ q => q) (fun b' x hx => ?_) (fun hx => hown i o u _ _ ho h2 (hx 0))⟩
    have := hown i o u b' x ho h2 hx
    exact ⟨World.cell?_of_block (a := ⟨b', x, none⟩) this, World.frozen?_of_block (a := ⟨b', x, none⟩) this⟩
  · have e := h.ext
    have hne : ∀ b' x, b' < w0.heap.size → ¬ O0 b' x → (mapAt w b fs' clock').heap[b']? = w.heap[b']? := fun b' x h1 h2 => q2 b' fun e => by
      subst e
      rcases hbO with q | q
      · exact h2 (q x)
      · omega
    exact ⟨e.os, e.tape, e.output, Nat.le_trans e.size hg.size, e.maps, e.more, e.less, e.own,
      fun b x h1 h2 => by
        have := e.cell b x h1 h2
        rw [World.cell?_of_block (a := ⟨b, x, none⟩) (hne b x h1 h2), World.frozen?_of_block (a := ⟨b, x, none⟩) (hne b x h1 h2)]; exact this,
      fun b h1 h2 => (hne b 0 h1 (h2 0)).trans (e.block b h1 h2)⟩

/-- A slot is written. -/
theorem At.putT (h : At C 0 O0 w0 S0 m0 s a w S m) {d : Nat} {t : T} {v : Value} (hd : d < C.n) (hv : RepV w S m t v) : At C 0 O0 w0 S0 m0 (s.put d t) (a.put (some d) v) w S m := by
  refine ⟨⟨h.rel.toStoRel, fun x => ?_, h.rel.fresh, h.rel.top⟩, h.tm.put _ _, h.ext, h.keep⟩
  show RepV w S m (bif Nat.beq x d then t else s.env x) _
  by_cases e : x = d
  · subst e
    have : x < a.tmps.size := by rw [h.tm.1]; exact hd
    have e2 : (a.put (some x) v).tmps.getD x undef = v := by simp [Act.put, this]
    rw [e2]
    have : Nat.beq x x = true := Nat.beq_refl x
    rw [this]; exact hv
  · have hb : Nat.beq x d = false := by cases hq : Nat.beq x d with
      | false => rfl
      | true => exact absurd (Nat.eq_of_beq_eq_true hq) e
    rw [hb, put_other (by simpa using fun e' => e e'.symm)]
    exact h.rel.env x

/-- Slots are forgotten. -/
theorem At.told (h : At C 0 O0 w0 S0 m0 s a w S m) (he : ∀ t, (s'.env t).isAny = true ∨ s'.env t = s.env t) (hs : s'.sto = s.sto) (hd : s'.done = s.done) : At C 0 O0 w0 S0 m0 s' a w S m := by
  refine ⟨⟨by rw [hs]; exact h.rel.toStoRel, fun t => ?_, by rw [hd]; exact h.rel.fresh, h.rel.top⟩, h.tm, by rw [hs]; exact h.ext, h.keep⟩
  rcases he t with q | q
  · exact .inl q
  · rw [q]; exact h.rel.env t
end
end Go.Proofs.D
