/- Code shown by hand: what is known between regions; objects parted, joined, told anew. -/
import Derived.Test.YtmmhjcimijfipaaGreatDClone
import Derived.Test.YtmmhjcimijfipaaGreatPLib
set_option linter.unusedVariables false
set_option linter.unusedSimpArgs false
namespace Go.Proofs.D
open Go.RowKit

section
variable {P : Program} {C C1 : Ctx} {s s' : St} {a a' : Act} {w w' : World} {S S' : Cells} {m m' : Nat → Option MB} {σ σ' : Nat → Option Obj} {O0 : Cells} {w0 : World} {S0 : Cells} {m0 : Nat → Option MB}

theorem Keeps.of_ext {mm mm' : Nat → Option MB} {O' : Cells} (h : StoRel σ w S m) (hx : Ext (OwnSt σ m) w S mm w' S' mm' O') : Keeps w S w' S' :=
  ⟨hx.more, fun b o v hs hv => by rw [(hx.cell b o (h.live b o hs) (h.notS hs)).1]; exact hv⟩

/-! ### States by lists -/
def envL : List (Nat × T) → Nat → T | [], _ => .any 0 | p :: l, t => bif Nat.beq t p.1 then p.2 else envL l t
def stoL : List (Nat × Obj) → Nat → Option Obj | [], _ => none | p :: l, i => bif Nat.beq i p.1 then some p.2 else stoL l i
def mkS (E : List (Nat × T)) (O : List (Nat × Obj)) (d : List Nat) : St := { env := envL E, sto := stoL O, done := fun x => elemN x d }

theorem envL_or {f : Nat → T} : ∀ {E : List (Nat × T)}, (∀ p ∈ E, f p.1 = p.2) → ∀ t, (envL E t).isAny = true ∨ envL E t = f t
  | [], _, t => .inl rfl
  | p :: l, h, t => by
    simp only [envL]
    cases hb : Nat.beq t p.1 with
    | true => rw [Nat.eq_of_beq_eq_true hb]; exact .inr (h p List.mem_cons_self).symm
    | false => exact envL_or (fun q hq => h q (List.mem_cons_of_mem _ hq)) t
theorem stoL_le : ∀ {O : List (Nat × Obj)}, (∀ p ∈ O, σ p.1 = some p.2) → ∀ i o, stoL O i = some o → σ i = some o
  | [], _, i, o, h => by cases h
  | p :: l, h, i, o, ho => by
    simp only [stoL] at ho
    cases hb : Nat.beq i p.1 with
    | true => rw [hb] at ho; rw [Nat.eq_of_beq_eq_true hb, h p List.mem_cons_self]; exact ho
    | false => rw [hb] at ho; exact stoL_le (fun q hq => h q (List.mem_cons_of_mem _ hq)) i o ho
theorem stoL_mem : ∀ {O : List (Nat × Obj)} {i : Nat} {o : Obj}, stoL O i = some o → (i, o) ∈ O
  | [], i, o, h => by cases h
  | p :: l, i, o, ho => by
    simp only [stoL] at ho
    cases hb : Nat.beq i p.1 with
    | true => rw [hb] at ho; cases ho; rw [Nat.eq_of_beq_eq_true hb]; exact List.mem_cons_self
    | false => rw [hb] at ho; exact List.mem_cons_of_mem _ (stoL_mem ho)
theorem env_of {tm : Array Value} : ∀ {E : List (Nat × T)}, (∀ p ∈ E, RepV w S m p.2 (tm.getD p.1 undef)) → ∀ t, RepV w S m (envL E t) (tm.getD t undef)
  | [], _, t => .inl rfl
  | p :: l, h, t => by
    simp only [envL]
    cases hb : Nat.beq t p.1 with
    | true => rw [Nat.eq_of_beq_eq_true hb]; exact h p List.mem_cons_self
    | false => exact env_of (fun q hq => h q (List.mem_cons_of_mem _ hq)) t

theorem Rel.weaken {tm : Array Value} (hr : Rel s tm w S m) (h1 : ∀ t, (s'.env t).isAny = true ∨ s'.env t = s.env t) (h2 : ∀ i o, s'.sto i = some o → s.sto i = some o) (h3 : ∀ d, s'.done d = false → s.done d = false) : Rel s' tm w S m :=
  ⟨⟨fun i o ho => hr.sto i o (h2 i o ho), fun i j o p u v hij ho hp hu hv => hr.apart i j o p u v hij (h2 i o ho) (h2 j p hp) hu hv, fun i o u ho hu => hr.stab i o u (h2 i o ho) hu, hr.live⟩,
    fun t => by
      rcases h1 t with h | h
      · exact .inl h
      · rw [h]; exact hr.env t,
    fun d hd hn => hr.fresh d hd (h3 d hn), hr.top⟩
theorem OwnSt.weaken (h2 : ∀ i o, σ' i = some o → σ i = some o) {b x : Nat} (h : OwnSt σ' m b x) : OwnSt σ m b x := let ⟨i, o, u, h1, h3⟩ := h; ⟨i, o, u, h2 i o h1, h3⟩

/-! ### Regions from list to list -/
theorem map_at {α β : Type} {f g : α → β} : ∀ {l : List α}, l.map f = l.map g → ∀ p ∈ l, f p = g p
  | [], _, p, h => by cases h
  | x :: l, h, p, hp => by
    simp only [List.map_cons, List.cons.injEq] at h
    rcases List.mem_cons.1 hp with e | e
    · subst e; exact h.1
    · exact map_at h.2 p e

def facts (ke ko : List Nat) (sF : St) : List T × List (Option Obj) × (Nat → Bool) := (ke.map sF.env, ko.map sF.sto, sF.done)
def told (E : List (Nat × T)) (O : List (Nat × Obj)) (d : List Nat) : List T × List (Option Obj) × (Nat → Bool) := (E.map (·.2), O.map (fun p => some p.2), fun x => elemN x d)

theorem At.region (hC : CtxOk P C1) (hm : P.follows .mixedOrders = true) (hn : C1.n = C.n) {Q : Exit → Act → World → Prop} {id : Nat} {ops : Array Oper} {dr : Bool} {E' : List (Nat × T)} {O' : List (Nat × Obj)} {d' ke ko : List Nat}
    (h : At C 0 O0 w0 S0 m0 s a w S m) (hke : E'.map (·.1) = ke) (hko : O'.map (·.1) = ko) (he : evalReg C1 dr ops.toList s (fun sF => some (facts ke ko sF)) = some (told E' O' d'))
    (hQ : ∀ a' w' S' m', At C 0 O0 w0 S0 m0 (mkS E' O' d') a' w' S' m' → Keeps w S w' S' → (∀ i u, m i = some u → m' i = some u) → Q .normal a' w') : (Code.region id ops dr).wp P Q a w := by
  have hT : TmOk C1 a := ⟨h.tm.1.trans hn.symm, h.tm.2⟩
  refine region_ok hC hm h.rel hT he fun s' a' w' S' m' k1 k2 k3 k4 => ?_
  simp only [facts, told, Option.some.injEq, Prod.mk.injEq] at k1
  obtain ⟨g1, g2, g3⟩ := k1
  subst hke; subst hko
  rw [List.map_map] at g1 g2
  have hs : ∀ i o, (mkS E' O' d').sto i = some o → s'.sto i = some o := stoL_le (map_at (f := s'.sto ∘ fun p : Nat × Obj => p.1) (g := fun p => some p.2) g2)
  have hr' : Rel (mkS E' O' d') a'.tmps w' S' m' := k2.weaken (envL_or (map_at (f := s'.env ∘ fun p : Nat × T => p.1) (g := fun p => p.2) g1)) hs
    (fun x hx => by rw [g3]; exact hx)
  have hx : Ext (OwnSt s.sto m) w S m w' S' m' (OwnSt (mkS E' O' d').sto m') := k4.sub fun b x => OwnSt.weaken hs
  exact hQ a' w' S' m' (h.step hr' ⟨k3.1.trans hn, k3.2⟩ hx) (Keeps.of_ext h.rel.toStoRel hx) hx.maps

/-! ### Steps that no code makes -/
theorem At.ghost (h : At C 0 O0 w0 S0 m0 s a w S m) (st : Step1 s.sto w S m σ' w S' m') {E' : List (Nat × T)} {O' : List (Nat × Obj)} {d' : List Nat} (hs : ∀ p ∈ O', σ' p.1 = some p.2) (henv : ∀ p ∈ E', RepV w S' m' p.2 (a.tmps.getD p.1 undef))
    (hd : ∀ x, elemN x d' = false → s.done x = false) (hm : ∀ i, m' i = m i ∨ ∃ x, i = 1000 + x ∧ x < 99000 ∧ elemN x d' = true) : At C 0 O0 w0 S0 m0 (mkS E' O' d') a w S' m' := by
  have hle : ∀ i o, (mkS E' O' d').sto i = some o → σ' i = some o := stoL_le hs
  have hsame : ∀ i, (∀ x, i = 1000 + x → x < 99000 → elemN x d' = true → False) → m' i = m i := fun i hi => (hm i).resolve_right fun ⟨x, h1, h2, h3⟩ => hi x h1 h2 h3
  refine ⟨⟨⟨fun i o ho => st.rel.sto i o (hle i o ho), fun i j o p u v hij ho hp hu hv => st.rel.apart i j o p u v hij (hle i o ho) (hle j p hp) hu hv, fun i o u ho hu => st.rel.stab i o u (hle i o ho) hu, st.rel.live⟩, env_of henv,
    fun d hd1 hn => ?_, fun i hi => ?_⟩, h.tm, h.ext.trans (st.ext.sub fun b x => OwnSt.weaken hle).drop, fun i u hi => absurd hi (Nat.not_lt_zero _)⟩
  · obtain ⟨g1, g2⟩ := h.rel.fresh d hd1 (hd d hn)
    have hn : elemN d d' = false := hn
    exact ⟨(hsame _ fun x h1 _ h3 => by
      have e : x = d := by omega
      subst e
      rw [hn] at h3; cases h3).trans g1, fun k hk => (hsame _ fun x h1 h2 _ => by omega).trans (g2 k hk)⟩
  · exact (hsame _ fun x h1 h2 _ => by omega).trans (h.rel.top i hi)

/-- An object that names no other one. -/
def Obj.closed : Obj → Bool | .cell _ _ (.val _ _) => true | .row _ _ _ => true | .map _ _ _ => true | _ => false
theorem ObjOk.closed {u : MB} {o : Obj} (h : ObjOk w S m u o) (hc : o.closed = true) : ObjOk w S m' u o := by
  cases o with
  | cell c fz t => cases t <;> first | exact h | (simp [Obj.closed] at hc)
  | row e sh l => exact h
  | map k v es => exact h

/-! ### A variable told by another shape -/
theorem StoRel.recell (h : StoRel σ w S m) {id i1 : Nat} {u : MB} {c c' : K} {t t' : T} (hs : σ id = some (.cell c false t)) (hu : m id = some u) (h1 : m i1 = none) (hc : c'.size = c.size) (hf : t'.fits c' = true)
    (hrep : ∀ cs, w.rangeAt u.b u.o cs → RepC w S m t cs → RepC w S m t' cs) :
    Step1 σ w S m (fun i => bif Nat.beq i id then none else bif Nat.beq i i1 then some (.cell c' false t') else σ i) w S (putM1 m i1 { u with code := c' }) := by
  obtain ⟨u', g1, g2⟩ := h.sto id _ hs
  rw [hu] at g1; cases g1
  obtain ⟨k0, k1, k2, cs, k3, k4, k5, k6⟩ := g2
  have hne : id ≠ i1 := fun e => by rw [e, h1] at hu; cases hu
  obtain ⟨r1, r2, r3⟩ := h.change (J := fun i => i = id ∨ i = i1) (F := fun _ _ => False) (σ' := fun i => bif Nat.beq i id then none else bif Nat.beq i i1 then some (.cell c' false t') else σ i) (m' := putM1 m i1 { u with code := c' }) (S' := S)
    (fun i hi => by show (bif Nat.beq i id then none else bif Nat.beq i i1 then some (Obj.cell c' false t') else σ i) = _; rw [upd_ne (fun q => hi (.inl q)), upd_ne (fun q => hi (.inr q))]) (putM1_old h1) (Touch.refl _ w) (fun b x q _ => q.elim) (fun _ _ q => q) (fun _ _ q => .inl q)
    (fun i o hi ho => by
      have ho : (bif Nat.beq i id then none else bif Nat.beq i i1 then some (Obj.cell c' false t') else σ i) = some o := ho
      by_cases e : i = id
      · subst e; rw [upd_eq] at ho; cases ho
      rw [upd_ne e] at ho
      have hi := hi.resolve_left e
      subst hi
      rw [upd_eq] at ho; cases ho
      refine ⟨_, putM1_new, ⟨k0, rfl, hf, cs, k3, (hrep cs k3 k4).keep (Keeps.refl w S) (putM1_old h1), fun q j hj => k5 q j (by rw [← hc]; exact hj), fun q => by cases q⟩, ?_⟩
      rintro b x ⟨-, q2, q3, q4⟩
      have hown : Own u (.cell c false t) b x := ⟨rfl, q2, q3, by rw [← hc]; exact q4⟩
      exact ⟨.inr ⟨id, _, u, .inl rfl, hs, hu, hown⟩, fun q => h.stab id _ u hs hu b x q hown⟩)
    (fun i j o p u v hi hj hij ho hp => by
      exfalso
      have ho : (bif Nat.beq i id then none else bif Nat.beq i i1 then some (Obj.cell c' false t') else σ i) = some o := ho
      have hp : (bif Nat.beq j id then none else bif Nat.beq j i1 then some (Obj.cell c' false t') else σ j) = some p := hp
      have hi : i = i1 := hi.resolve_left fun e => by subst e; rw [upd_eq] at ho; cases ho
      have hj : j = i1 := hj.resolve_left fun e => by subst e; rw [upd_eq] at hp; cases hp
      exact hij (hi.trans hj.symm))
  exact ⟨r1, r2, r3⟩

/-! ### A row parted: what lies ahead of its last element, that element, the room behind it -/
def mbRow (b o n cap : Nat) (e : K) : MB := ⟨.slice (some ⟨b, o, none⟩) n cap, b, o, .arr 0 e⟩
def mbCell (b o : Nat) (c : K) : MB := ⟨.pointer (some ⟨b, o, none⟩), b, o, c⟩
def put3 (m : Nat → Option MB) (i1 i2 i3 : Nat) (u1 u2 u3 : MB) : Nat → Option MB := fun i => if i = i1 then some u1 else if i = i2 then some u2 else if i = i3 then some u3 else m i
def upd4 (σ : Nat → Option Obj) (id i1 i2 i3 : Nat) (o0 o1 o2 o3 : Option Obj) : Nat → Option Obj := fun i => if i = id then o0 else if i = i1 then o1 else if i = i2 then o2 else if i = i3 then o3 else σ i

theorem ar1 (n cap z : Nat) (h : n + 1 ≤ cap) : (n + 1) * z = n * z + z ∧ cap * z = (n + 1) * z + (cap - (n + 1)) * z := by
  refine ⟨by rw [Nat.add_mul, Nat.one_mul], ?_⟩
  rw [← Nat.add_mul]; congr 1; omega

theorem own_row {b o n cap y b' : Nat} {e : K} {l : List (El e)} : Own (mbRow b o n cap e) (.row e false l) b' y ↔ b' = b ∧ o ≤ y ∧ y < o + cap * e.size := by
  constructor
  · rintro ⟨n', cap', a', q1, q2, q3, q4, _⟩; cases q1; exact ⟨q2, q3, q4⟩
  · rintro ⟨q2, q3, q4⟩; exact ⟨n, cap, _, rfl, q2, q3, q4, fun q => by cases q⟩
theorem own_cell {b o y b' : Nat} {c : K} {t : T} : Own (mbCell b o c) (.cell c false t) b' y ↔ b' = b ∧ o ≤ y ∧ y < o + c.size := by
  constructor
  · rintro ⟨_, q2, q3, q4⟩; exact ⟨q2, q3, q4⟩
  · rintro ⟨q2, q3, q4⟩; exact ⟨rfl, q2, q3, q4⟩

theorem StoRel.part (h : StoRel σ w S m) {id i1 i2 i3 b o cap : Nat} {e c : K} {L : List (El e)} {x : El e} {t : T} (hs : σ id = some (.row e false (L ++ [x]))) (hu : m id = some (mbRow b o (L.length + 1) cap e)) (hcap : L.length + 1 ≤ cap)
    (n1 : m i1 = none) (n2 : m i2 = none) (n3 : m i3 = none) (d12 : i1 ≠ i2) (d13 : i1 ≠ i3) (d23 : i2 ≠ i3) (hc : c.size = e.size) (hf : t.fits c = true) (hrep : ∀ cs, Rep w S e x cs → RepC w S m t cs) :
    Step1 σ w S m (upd4 σ id i1 i2 i3 none (some (.row e false L)) (some (.cell c false t)) (some (.row e false []))) w S
      (put3 m i1 i2 i3 (mbRow b o L.length L.length e) (mbCell b (o + L.length * e.size) c) (mbRow b (o + (L.length + 1) * e.size) 0 (cap - (L.length + 1)) e)) := by
  obtain ⟨u', g1, g2⟩ := h.sto id _ hs
  rw [hu] at g1; cases g1
  obtain ⟨A, cap', k0, k1, k2, k3, k4, k5, k6⟩ := g2
  obtain ⟨a1, a2⟩ := ar1 L.length cap e.size hcap
  have e1 : id ≠ i1 := fun q => by rw [q, n1] at hu; cases hu
  have e2 : id ≠ i2 := fun q => by rw [q, n2] at hu; cases hu
  have e3 : id ≠ i3 := fun q => by rw [q, n3] at hu; cases hu
  have hold : ∀ y, o ≤ y → y < o + cap * e.size → Own (mbRow b o (L.length + 1) cap e) (.row e false (L ++ [x])) b y := fun y q1 q2 => own_row.2 ⟨rfl, q1, q2⟩
  have hm : ∀ i v, m i = some v → put3 m i1 i2 i3 (mbRow b o L.length L.length e) (mbCell b (o + L.length * e.size) c) (mbRow b (o + (L.length + 1) * e.size) 0 (cap - (L.length + 1)) e) i = some v := fun i v hv => by
    unfold put3
    rw [if_neg (fun q => by rw [q, n1] at hv; cases hv), if_neg (fun q => by rw [q, n2] at hv; cases hv), if_neg (fun q => by rw [q, n3] at hv; cases hv)]; exact hv
  have fresh : ∀ y, o ≤ y → y < o + cap * e.size → (w.heap.size ≤ b ∨ OwnJ (fun i => i = id ∨ i = i1 ∨ i = i2 ∨ i = i3) σ m b y) ∧ ¬ S b y := fun y q1 q2 =>
    ⟨.inr ⟨id, _, _, .inl rfl, hs, hu, hold y q1 q2⟩, fun q => h.stab id _ _ hs hu b y q (hold y q1 q2)⟩
  have look : ∀ i ob, (i = id ∨ i = i1 ∨ i = i2 ∨ i = i3) → upd4 σ id i1 i2 i3 none (some (.row e false L)) (some (.cell c false t)) (some (.row e false [])) i = some ob →
      (i = i1 ∧ ob = .row e false L) ∨ (i = i2 ∧ ob = .cell c false t) ∨ (i = i3 ∧ ob = .row e false []) := by
    intro i ob hi ho
    unfold upd4 at ho
    rcases hi with hi | hi | hi | hi
    · rw [if_pos hi] at ho; cases ho
    · rw [if_neg (fun q => e1 (q.symm.trans hi)), if_pos hi] at ho; cases ho; exact .inl ⟨hi, rfl⟩
    · rw [if_neg (fun q => e2 (q.symm.trans hi)), if_neg (fun q => d12 (q.symm.trans hi)), if_pos hi] at ho; cases ho; exact .inr (.inl ⟨hi, rfl⟩)
    · rw [if_neg (fun q => e3 (q.symm.trans hi)), if_neg (fun q => d13 (q.symm.trans hi)), if_neg (fun q => d23 (q.symm.trans hi)), if_pos hi] at ho; cases ho; exact .inr (.inr ⟨hi, rfl⟩)
  have p1 : put3 m i1 i2 i3 (mbRow b o L.length L.length e) (mbCell b (o + L.length * e.size) c) (mbRow b (o + (L.length + 1) * e.size) 0 (cap - (L.length + 1)) e) i1 = some (mbRow b o L.length L.length e) := by unfold put3; rw [if_pos rfl]
  have p2 : put3 m i1 i2 i3 (mbRow b o L.length L.length e) (mbCell b (o + L.length * e.size) c) (mbRow b (o + (L.length + 1) * e.size) 0 (cap - (L.length + 1)) e) i2 = some (mbCell b (o + L.length * e.size) c) := by unfold put3; rw [if_neg (Ne.symm d12), if_pos rfl]
  have p3 : put3 m i1 i2 i3 (mbRow b o L.length L.length e) (mbCell b (o + L.length * e.size) c) (mbRow b (o + (L.length + 1) * e.size) 0 (cap - (L.length + 1)) e) i3 = some (mbRow b (o + (L.length + 1) * e.size) 0 (cap - (L.length + 1)) e) := by unfold put3; rw [if_neg (Ne.symm d13), if_neg (Ne.symm d23), if_pos rfl]
  obtain ⟨r1, r2, r3⟩ := h.change (J := fun i => i = id ∨ i = i1 ∨ i = i2 ∨ i = i3) (F := fun _ _ => False) (σ' := upd4 σ id i1 i2 i3 none (some (.row e false L)) (some (.cell c false t)) (some (.row e false [])))
    (m' := put3 m i1 i2 i3 (mbRow b o L.length L.length e) (mbCell b (o + L.length * e.size) c) (mbRow b (o + (L.length + 1) * e.size) 0 (cap - (L.length + 1)) e)) (S' := S)
    (fun i hi => by unfold upd4; rw [if_neg (fun q => hi (.inl q)), if_neg (fun q => hi (.inr (.inl q))), if_neg (fun q => hi (.inr (.inr (.inl q)))), if_neg (fun q => hi (.inr (.inr (.inr q))))])
    hm (Touch.refl _ w) (fun b x q _ => q.elim) (fun _ _ q => q) (fun _ _ q => .inl q)
    (fun i ob hi ho => by
      rcases look i ob hi ho with ⟨ei, eo⟩ | ⟨ei, eo⟩ | ⟨ei, eo⟩
      · subst ei; subst eo
        refine ⟨_, p1, ⟨_, _, rfl, Nat.le_refl _, rfl, (fun q => by cases q), (fun a q _ => by cases q; rfl), fun k y hy => ?_, fun y hy => ?_⟩, fun b' y hy => ?_⟩
        · have hk := (List.getElem?_eq_some_iff.1 hy).1
          exact k5 k y (by rw [List.getElem?_append_left hk]; exact hy)
        · obtain ⟨q1, q2, q3⟩ := own_row.1 hy
          exact k6 y (hold y q2 (by omega))
        · obtain ⟨q1, q2, q3⟩ := own_row.1 hy
          subst q1
          exact fresh y q2 (by omega)
      · subst ei; subst eo
        obtain ⟨cs, c1, c2, c3, _⟩ := k5 L.length x (by simp)
        refine ⟨_, p2, ⟨rfl, rfl, hf, cs, c2, (hrep cs c3).keep (Keeps.refl w S) hm, fun _ j hj => (k6 (o + L.length * e.size + j) (hold _ (by omega) (by omega))).2, fun q => by cases q⟩, fun b' y hy => ?_⟩
        obtain ⟨q1, q2, q3⟩ := own_cell.1 hy
        subst q1
        exact fresh y (by omega) (by omega)
      · subst ei; subst eo
        refine ⟨_, p3, ⟨_, _, rfl, Nat.zero_le _, rfl, (fun q => by cases q), (fun a q _ => by cases q; rfl), fun k y hy => by simp at hy, fun y hy => ?_⟩, fun b' y hy => ?_⟩
        · obtain ⟨q1, q2, q3⟩ := own_row.1 hy
          exact k6 y (hold y (by omega) (by omega))
        · obtain ⟨q1, q2, q3⟩ := own_row.1 hy
          subst q1
          exact fresh y (by omega) (by omega))
    (fun i j ob p u v hi hj hij ho hp hu' hv' b' y hx hy => by
      rcases look i ob hi ho with ⟨ei, eo⟩ | ⟨ei, eo⟩ | ⟨ei, eo⟩ <;> rcases look j p hj hp with ⟨ej, ep⟩ | ⟨ej, ep⟩ | ⟨ej, ep⟩ <;> subst ei <;> subst eo <;> subst ej <;> subst ep <;>
        first
        | exact hij rfl
        | (simp only [p1, p2, p3, Option.some.injEq] at hu' hv'
           subst hu'; subst hv'
           simp only [own_row, own_cell] at hx hy
           omega))
  exact ⟨r1, r2, r3⟩

/-! ### Slices told by their headers -/
def hK (e : K) : K → K | .slice f => bif decide (f = e) then .hdr else .slice f | .cons a b => .cons (hK e a) (hK e b) | c => c

/-! ### A function's code, piece by piece -/
def rops : Code → Nat → Array Oper
  | .region j ops _, i => bif Nat.beq j i then ops else #[]
  | .seq a b, i => (match rops a i with | ⟨[]⟩ => rops b i | x => x)
  | .cond _ a b, i => (match rops a i with | ⟨[]⟩ => rops b i | x => x)
  | .block _ c, i => rops c i | .loop c, i => rops c i | .scope c, i => rops c i
  | .rangeFunc _ _ a b, i => (match rops a i with | ⟨[]⟩ => rops b i | x => x)
  | _, _ => #[]
def bodyOf (f : Func) : Code := match f.body with | some c => c | none => .skip

def givens (q : Cuts) : Code → List (Code × Given)
  | .region i ops d => (match q.given 3 i with | some g => [(.region i ops d, g)] | none => [])
  | .seq a b => givens q a ++ givens q b
  | .cond _ a b => givens q a ++ givens q b
  | .block _ c => givens q c
  | .loop c => (match firstRegion c with | some i => (match q.given 0 i with | some g => [(.loop c, g)] | none => []) | none => []) ++ givens q c
  | .rangeFunc f ps a b => (match (firstRegion a).or (firstRegion b) with | some i => (match q.given 1 i with | some g => [(.rangeFunc f ps a b, g)] | none => []) | none => [])
  | .scope c => (match firstRegion c with | some i => (match q.given 2 i with | some g => [(.scope c, g)] | none => []) | none => [])
  | _ => []
theorem GivenIn.of {q : Cuts} : ∀ {c : Code}, (∀ p ∈ givens q c, CodeOk P C q.np p.1 p.2) → GivenIn P C q c
  | .region i ops d, h => fun g hg => h (.region i ops d, g) (by simp [givens, hg])
  | .seq a b, h => ⟨GivenIn.of fun p hp => h p (List.mem_append_left _ hp), GivenIn.of fun p hp => h p (List.mem_append_right _ hp)⟩
  | .cond _ a b, h => ⟨GivenIn.of fun p hp => h p (List.mem_append_left _ hp), GivenIn.of fun p hp => h p (List.mem_append_right _ hp)⟩
  | .block _ c, h => GivenIn.of (c := c) h
  | .loop c, h => ⟨fun i g h1 h2 => h (.loop c, g) (List.mem_append_left _ (by simp [h1, h2])), GivenIn.of fun p hp => h p (List.mem_append_right _ hp)⟩
  | .rangeFunc f ps a b, h => fun i g h1 h2 => h (.rangeFunc f ps a b, g) (by simp [givens, h1, h2])
  | .scope c, h => fun i g h1 h2 => h (.scope c, g) (by simp [givens, h1, h2])
  | .skip, _ => trivial
  | .exit _, _ => trivial
  | .label _, _ => trivial
  | .goto _, _ => trivial
  | .ret, _ => trivial
  | .refuse _, _ => trivial
theorem GivenIn.of_list {q : Cuts} {c : Code} {l : List (Code × Given)} (h : givens q c = l) (hl : ∀ p ∈ l, CodeOk P C q.np p.1 p.2) : GivenIn P C q c := GivenIn.of (by rw [h]; exact hl)
theorem At.same {E : List (Nat × T)} {O : List (Nat × Obj)} (h : At C 0 O0 w0 S0 m0 (mkS E O []) a w S m) (h1 : ∀ t, s'.env t = envL E t) (h2 : ∀ i o, s'.sto i = some o → stoL O i = some o) : At C 0 O0 w0 S0 m0 s' a w S m :=
  ⟨h.rel.weaken (fun t => .inr (h1 t)) h2 (fun d _ => rfl), h.tm, h.ext.sub fun b x => OwnSt.weaken h2, fun i u hi => absurd hi (Nat.not_lt_zero _)⟩
end
end Go.Proofs.D
