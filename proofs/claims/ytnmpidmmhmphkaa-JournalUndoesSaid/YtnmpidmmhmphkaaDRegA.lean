/- Regions in any order, in a round's frame; what is owned may be maps. -/
import Derived.Test.YtnmpidmmhmphkaaDCopy
import Derived.OrdersIn
set_option linter.unusedVariables false
set_option linter.unusedSimpArgs false
namespace Go.Proofs.D
open Go.RowKit

section
variable {P : Program} {C C1 C' : Ctx} {s s' : St} {a a' : Act} {w w' : World} {S S' : Cells} {m m' : Nat → Option MB} {O0 : Cells} {w0 : World} {S0 : Cells} {m0 : Nat → Option MB} {lr : Option Nat} {n : Nat} {E : List (Nat × T)} {O : List (Nat × Obj)} {d : List Nat} {R : Type} {r : R}

theorem draw_in (hC : CtxOk P C) {L : List Deferred} {Q : Exit → Act → World → Prop} {ops : Array Oper} {s : St} {rs : List Rec} (ht : Trace C ops.toList 0 [] ops.toList s rs) (hp : pairsOk ops.toList (numbered 0 ops.toList) = true) {O : Cells} {w0 : World} {S0 : Cells} {m0 : Nat → Option MB}
    (hQ : ∀ a' w' S' m', Rel (apps rs s) a'.tmps w' S' m' → TmOk C a' → Ext O w0 S0 m0 w' S' m' (OwnSt (apps rs s).sto m') → Q .normal (withD L a') w') :
    ∀ (fuel : Nat) (listed : Array Bool) (a : Act) (w : World) (S : Cells) (m : Nat → Option MB), listed.size = ops.size → Closed ops.toList (listA listed) → listed.toList.count false ≤ fuel →
      Rel (replay rs (listA listed) 0 s) a.tmps w S m → TmOk C a → Ext O w0 S0 m0 w S m (OwnSt (replay rs (listA listed) 0 s).sto m) → wpAnyIn (Fr lr) n P .any ops Q fuel listed (withD L a) w := by
  have hlen := ht.len
  simp only [Array.length_toList] at hlen
  have p1 := (pairsOk_get hp).1
  -- where nothing may come up any more, all has come
  have hall : ∀ listed : Array Bool, listed.size = ops.size → Region.ready .any ops listed = [] → ∀ j, j < rs.length → listA listed j = true := by
    intro listed hsz hr j
    induction j using Nat.strongRecOn with
    | _ j ih =>
      intro hj
      cases hq : listA listed j with
      | true => rfl
      | false =>
        exfalso
        have hjo : j < ops.size := by omega
        have ho : ops[j]? = some ops[j] := Array.getElem?_eq_getElem hjo
        have : j ∈ Region.ready .any ops listed := mem_ready.2 ⟨by
            unfold listA at hq
            have hjl : j < listed.size := by omega
            simp only [Array.getD_eq_getD_getElem?, Array.getElem?_eq_getElem hjl, Option.getD_some] at hq ⊢
            exact hq, ops[j], ho, fun e he hb => by
          have := aftOf_of (p := fun x => x < j) (l := ops[j].after.toList) (fun x hx => by have := p1 j ops[j] (by rw [Array.getElem?_toList]; exact ho) x hx; omega) e (by simpa using he) hb
          exact ih e.on this (by omega)⟩
        rw [hr] at this; cases this
  have hfin : ∀ (listed : Array Bool) (a : Act) (w : World) (S : Cells) (m : Nat → Option MB), (∀ j, j < rs.length → listA listed j = true) →
      Rel (replay rs (listA listed) 0 s) a.tmps w S m → TmOk C a → Ext O w0 S0 m0 w S m (OwnSt (replay rs (listA listed) 0 s).sto m) → Q .normal (withD L a) w := by
    intro listed a w S m h1 h2 h3 h4
    rw [replay_all h1] at h2 h4
    exact hQ a w S m h2 h3 h4
  intro fuel
  induction fuel with
  | zero =>
    intro listed a w S m hsz hcl hcnt hr hT he
    have hnone : ∀ j, j < rs.length → listA listed j = true := fun j hj => by
      have h0 : false ∉ listed.toList := List.count_eq_zero.1 (Nat.le_zero.1 hcnt)
      have hjl : j < listed.size := by omega
      unfold listA
      simp only [Array.getD_eq_getD_getElem?, Array.getElem?_eq_getElem hjl, Option.getD_some]
      cases hq : listed[j] with
      | true => rfl
      | false => exact absurd (by rw [← hq]; simp) h0
    refine ⟨?_, hfin listed a w S m hnone hr hT he⟩
    cases hq : Region.ready .any ops listed with
    | nil => rfl
    | cons j l =>
      have : j ∈ Region.ready .any ops listed := by rw [hq]; exact List.mem_cons_self
      obtain ⟨h1, o, h2, _⟩ := mem_ready.1 this
      have hj : j < ops.size := (Array.getElem?_eq_some_iff.1 h2).1
      have h3 := hnone j (by omega)
      unfold listA at h3
      have hjl : j < listed.size := by omega
      simp only [Array.getD_eq_getD_getElem?, Array.getElem?_eq_getElem hjl, Option.getD_some] at h1 h3
      rw [h3] at h1; cases h1
  | succ fuel ih =>
    intro listed a w S m hsz hcl hcnt hr hT he
    refine ⟨fun h0 => hfin listed a w S m (hall listed hsz h0) hr hT he, fun i hi => ?_⟩
    obtain ⟨hun, o, ho, haft⟩ := mem_ready.1 hi
    have hio : i < ops.size := (Array.getElem?_eq_some_iff.1 ho).1
    have hil : i < listed.size := by omega
    obtain ⟨r, hri⟩ : ∃ r, rs[i]? = some r := ⟨rs[i]'(by omega), List.getElem?_eq_getElem (by omega)⟩
    have hro : r.o = o := by
      have := ht.op i r hri
      rw [Array.getElem?_toList, ho] at this
      exact (Option.some.inj this).symm
    have hA : listA listed i = false := by
      unfold listA
      simp only [Array.getD_eq_getD_getElem?, Array.getElem?_eq_getElem hil, Option.getD_some] at hun ⊢
      exact hun
    have haft' : ∀ e ∈ aftOf r.o.after.toList, listA listed e = true := by
      rw [hro]
      exact aftOf_mem (p := fun x => listA listed x = true) fun e he hb => haft e (by simpa using he) hb
    obtain ⟨hran, hnext⟩ := draw_step ht hp hcl hri hA haft'
    -- behind it
    have hset : (fun j => listA listed j || Nat.beq j i) = listA (listed.setIfInBounds i true) := by
      funext j
      unfold listA
      by_cases hj : j = i
      · subst hj; simp [hil]
      · have : Nat.beq j i = false := by cases hb : Nat.beq j i with
          | false => rfl
          | true => exact absurd (Nat.eq_of_beq_eq_true hb) hj
        rw [this, Bool.or_false]
        simp [Array.getElem?_setIfInBounds_ne (Ne.symm hj)]
    rw [hset] at hnext
    have hcl' : Closed ops.toList (listA (listed.setIfInBounds i true)) := by
      rw [← hset]
      intro j oj hj hAj e he'
      by_cases e1 : j = i
      · subst e1
        rw [Array.getElem?_toList, ho] at hj
        cases hj
        rw [hro] at haft'
        simp [haft' e he']
      · have : Nat.beq j i = false := by cases hb : Nat.beq j i with
          | false => rfl
          | true => exact absurd (Nat.eq_of_beq_eq_true hb) e1
        simp only [this, Bool.or_false] at hAj
        simp [hcl j oj hj hAj e he']
    have hcnt' : (listed.setIfInBounds i true).toList.count false ≤ fuel := by
      have h1 : listed.toList[i]? = some false := by
        rw [Array.getElem?_toList, Array.getElem?_eq_getElem hil]
        simp only [Array.getD_eq_getD_getElem?, Array.getElem?_eq_getElem hil, Option.getD_some] at hun
        rw [hun]
      have := count_false_set h1
      rw [Array.toList_setIfInBounds]
      omega
    have hsz' : (listed.setIfInBounds i true).size = ops.size := by simp [hsz]
    have next : ∀ a' w' S' m', Rel (r.app (replay rs (listA listed) 0 s)) a'.tmps w' S' m' → TmOk C a' → Ext (OwnSt (replay rs (listA listed) 0 s).sto m) w S m w' S' m' (OwnSt (r.app (replay rs (listA listed) 0 s)).sto m') →
        wpAnyIn (Fr lr) n P .any ops Q fuel (listed.setIfInBounds i true) (withD L a') w' := by
      intro a' w' S' m' h1 h2 h3
      exact ih _ a' w' S' m' hsz' hcl' hcnt' (by rw [hnext]; exact h1) h2 (by rw [hnext]; exact he.trans h3)
    unfold wpOpIn
    simp only [ho]
    have hw := hran.1.wanted rfl hr
    rw [hro] at hw
    have et : (withD L a).tmps = a.tmps := rfl
    rw [et, hw]
    cases hq : r.ran with
    | true =>
      simp only [if_true]
      obtain ⟨g1, g2, _, _⟩ := hran.2.1 hq
      rw [hro] at g1
      have hev : evalOp C o (replay rs (listA listed) 0 s).env (replay rs (listA listed) 0 s).sto (fun t u => some (t, u)) = some (r.t, r.u) := by rw [← hro]; exact g2 _ _
      have hnd : ∀ c, o.op ≠ .defer c := fun c hop => by simp [evalOp, hop] at hev
      obtain ⟨t, u, hk, hh⟩ := wp_one' hC hr hT (Q := fun _ _ _ => False) (next := fun a' w' => a'.defers = [] ∧ wpAnyIn (Fr lr) n P .any ops Q fuel (listed.setIfInBounds i true) (withD L a') w') (ops := ops) g1 hev
      cases hk
      have happ : r.app (replay rs (listA listed) 0 s) = (replay rs (listA listed) 0 s).step o r.t r.u := by
        unfold Rec.app
        rw [hro, hq, Bool.true_and, ← step_env o r.t r.u]
        rfl
      exact oper_in hnd hT.2 (hh fun v w' S' m' h1 h2 h3 => ⟨h2.2, next _ w' S' m' (by rw [happ]; exact h1) h2 (by rw [happ]; exact h3)⟩)
    | false =>
      simp only [Bool.false_eq_true, if_false]
      obtain ⟨g1, g2⟩ := hran.2.2 hq
      have happ : r.app (replay rs (listA listed) 0 s) = { replay rs (listA listed) 0 s with env := putE o.dst .und (replay rs (listA listed) 0 s).env } := by
        unfold Rec.app
        rw [hro, hq, g1, g2]
        rfl
      refine ⟨fun _ _ => trivial, ?_⟩
      rw [withD_put]
      refine next _ w S m (by rw [happ]; exact hr.skip _) (hT.put _ _) ?_
      rw [happ]
      exact Ext.refl ..

theorem regionD_in (hC : CtxOk P C) (hm : P.follows .mixedOrders = true) {L : List Deferred} {Q : Exit → Act → World → Prop} {id : Nat} {ops : Array Oper} {κ : St → Option R}
    (hr : Rel s a.tmps w S m) (hT : TmOk C a) (he : evalReg C true ops.toList s κ = some r)
    (hQ : ∀ s' a' w' S' m', κ s' = some r → Rel s' a'.tmps w' S' m' → TmOk C a' → Ext (OwnSt s.sto m) w S m w' S' m' (OwnSt s'.sto m') → Q .normal (withD L a') w') : (Code.region id ops true).wpIn (Fr lr) n P Q (withD L a) w := by
  obtain ⟨hp, he⟩ := bif_some he
  obtain ⟨rs, h1, h2⟩ := evalDraw_tr (my := []) (fun g hg => by cases hg) he
  have ht := h1.trace
  refine wpIn_region_any hm ?_
  have hnone : ∀ j, listA (Array.replicate ops.size false) j = false := fun j => by
    unfold listA
    rcases Nat.lt_or_ge j ops.size with q | q
    · simp [q]
    · simp [Array.getElem?_eq_none (xs := Array.replicate ops.size false) (i := j) (by simpa using q)]
  have h0 : replay rs (listA (Array.replicate ops.size false)) 0 s = s := by
    have : ∀ (rs : List Rec) (k : Nat) (s : St), replay rs (listA (Array.replicate ops.size false)) k s = s := by
      intro rs
      induction rs with
      | nil => intro k s; rfl
      | cons r rs ih => intro k s; simp only [replay, hnone, cond_false]; exact ih _ _
    exact this rs 0 s
  refine draw_in hC ht hp (O := OwnSt s.sto m) (w0 := w) (S0 := S) (m0 := m) (fun a' w' S' m' g1 g2 g3 => hQ _ a' w' S' m' h2 g1 g2 g3) ops.size _ a _ S m (by simp) (fun j o _ hA => by rw [hnone] at hA; cases hA) ?_ ?_ hT ?_
  · simp
  · rw [h0]; exact hr.drew _
  · rw [h0]; exact Ext.drew _ _ _ _ _ (Nat.le_succ _)

/-- A region, drawn or not, told in full. -/
theorem At.regionA (hC : CtxOk P C1) (hm : P.follows .mixedOrders = true) (hn : C1.n = C.n) {L : List Deferred} {Q : Exit → Act → World → Prop} {id : Nat} {ops : Array Oper} {dr : Bool} {E' : List (Nat × T)} {O' : List (Nat × Obj)} {d' ke ko : List Nat}
    (h : At C 0 O0 w0 S0 m0 s a w S m) (he : evalReg C1 dr ops.toList s (fun sF => some (facts ke ko sF)) = some (Go.Proofs.D.told E' O' d')) (hke : E'.map (·.1) = ke) (hko : O'.map (·.1) = ko)
    (hQ : ∀ a' w' S' m', At C 0 O0 w0 S0 m0 (mkS E' O' d') a' w' S' m' → Keeps w S w' S' → (∀ i u, m i = some u → m' i = some u) → Ext (OwnSt s.sto m) w S m w' S' m' (OwnSt (mkS E' O' d').sto m') → Q .normal (withD L a') w') : (Code.region id ops dr).wpIn (Fr lr) n P Q (withD L a) w := by
  cases dr with
  | false => exact At.regionIn hC hn h hke hko he fun a' w' S' m' h1 h2 h3 h4 _ => hQ a' w' S' m' h1 h2 h3 h4
  | true =>
    have hT : TmOk C1 a := ⟨h.tm.1.trans hn.symm, h.tm.2⟩
    refine regionD_in hC hm h.rel hT he fun s' a' w' S' m' k1 k2 k3 k4 => ?_
    simp only [facts, Go.Proofs.D.told, Option.some.injEq, Prod.mk.injEq] at k1
    obtain ⟨g1, g2, g3⟩ := k1
    subst hke; subst hko
    rw [List.map_map] at g1 g2
    have hs : ∀ i o, (mkS E' O' d').sto i = some o → s'.sto i = some o := stoL_le (map_at (f := s'.sto ∘ fun p : Nat × Obj => p.1) (g := fun p => some p.2) g2)
    have hr' : Rel (mkS E' O' d') a'.tmps w' S' m' := k2.weaken (envL_or (map_at (f := s'.env ∘ fun p : Nat × T => p.1) (g := fun p => p.2) g1)) hs
      (fun x hx => by rw [g3]; exact hx)
    have hx : Ext (OwnSt s.sto m) w S m w' S' m' (OwnSt (mkS E' O' d').sto m') := k4.sub fun b x => OwnSt.weaken hs
    exact hQ a' w' S' m' (h.step hr' ⟨k3.1.trans hn, k3.2⟩ hx) (Keeps.of_ext h.rel.toStoRel hx) hx.maps hx

theorem At.regionI (hC : CtxOk P C1) (hn : C1.n = C.n) {L : List Deferred} {Q : Exit → Act → World → Prop} {id : Nat} {ops : Array Oper} {E' : List (Nat × T)} {O' : List (Nat × Obj)} {d' ke ko : List Nat}
    (h : At C 0 O0 w0 S0 m0 s a w S m) (he : evalReg C1 false ops.toList s (fun sF => some (facts ke ko sF)) = some (Go.Proofs.D.told E' O' d')) (hke : E'.map (·.1) = ke) (hko : O'.map (·.1) = ko)
    (hQ : ∀ a' w' S' m', At C 0 O0 w0 S0 m0 (mkS E' O' d') a' w' S' m' → Keeps w S w' S' → (∀ i u, m i = some u → m' i = some u) → Ext (OwnSt s.sto m) w S m w' S' m' (OwnSt (mkS E' O' d').sto m') → Same a a' ops.toList → Q .normal (withD L a') w') : (Code.region id ops false).wpIn (Fr lr) n P Q (withD L a) w :=
  At.regionIn hC hn h hke hko he hQ

/-- What is owned are cells, or maps. -/
theorem At.notOwnW (h : At C 0 O0 w0 S0 m0 s a w S m) {b : Nat} {o : Go.Obj} (hb : w.heap[b]? = some o) (hc : o.isCells = false) (hw : o.isWalk = false) : ∀ x, ¬ OwnSt s.sto m b x := by
  rintro x ⟨i, ob, u, h1, h2, h3⟩
  obtain ⟨u', k1, k2⟩ := h.rel.sto i ob h1
  rw [h2] at k1; cases k1
  have hv : (∃ v, w.cell? ⟨b, x, none⟩ = some v) ∨ ∃ fs clock, w.heap[b]? = some (.map fs clock) := by
    cases ob with
    | cell c fz t =>
      obtain ⟨-, -, hf, cs, g1, g2, -⟩ := k2
      obtain ⟨-, q, g3, g4⟩ := h3
      subst q
      have hl := RepC.length hf g2
      exact .inl ⟨cs[x - u.o]'(by omega), by have := g1 _ _ (List.getElem?_eq_getElem (l := cs) (i := x - u.o) (by omega)); rwa [show u.o + (x - u.o) = x by omega] at this⟩
    | row e sh l =>
      obtain ⟨A, cap, -, -, -, -, -, -, g2⟩ := k2
      have q : b = u.b := by obtain ⟨n, cap, a, _, q, _⟩ := h3; exact q
      subst q
      exact .inl (Option.isSome_iff_exists.1 (g2 x h3).1)
    | map kc vc es =>
      obtain ⟨-, -, fs, clock, g1, -⟩ := k2
      have q : b = u.b := h3
      subst q
      exact .inr ⟨fs, clock, g1⟩
  rcases hv with ⟨v, hv⟩ | ⟨fs, clock, hv⟩
  · unfold World.cell? at hv
    rw [hb] at hv
    cases o <;> simp_all [Go.Obj.isCells]
  · rw [hb] at hv
    cases hv
    simp [Go.Obj.isWalk] at hw

theorem At.grownW {row : Option Nat} (h : At C 0 O0 w0 S0 m0 s a w S m) (hg : Gr w w' row)
    (hr : ∀ r, row = some r → w0.heap.size ≤ r ∧ ∃ o, w.heap[r]? = some o ∧ o.isCells = false ∧ o.isWalk = false) : At C 0 O0 w0 S0 m0 s a w' S m := by
  have hr' : ∀ r, row = some r → ∃ o, w.heap[r]? = some o ∧ o.isCells = false := fun r e => let ⟨_, o, q1, q2, _⟩ := hr r e; ⟨o, q1, q2⟩
  have hk : Keeps w S w' S := ⟨fun _ _ q => q, fun b o v _ hv => by rw [World.cell?_of_block (a := ⟨b, o, none⟩) (grown_cell hg hr' hv)]; exact hv⟩
  have hown : ∀ b x, OwnSt s.sto m b x → w'.heap[b]? = w.heap[b]? := fun b x hx => by
    have hlt : b < w.heap.size := by
      obtain ⟨i, o, u, h1, h2, h3⟩ := hx
      obtain ⟨u', k1, k2⟩ := h.rel.sto i o h1
      rw [h2] at k1; cases k1
      exact k2.own_lt h3
    refine hg.block b hlt fun e => ?_
    obtain ⟨-, o, q1, q2, q3⟩ := hr b e.symm
    exact h.notOwnW q1 q2 q3 x hx
  refine ⟨⟨⟨fun i o ho => ?_, h.rel.apart, h.rel.stab, fun b x hs => Nat.lt_of_lt_of_le (h.rel.live b x hs) hg.size⟩, fun t => (h.rel.env t).keep hk fun _ _ q => q, h.rel.fresh, h.rel.top⟩, h.tm, ?_, h.keep⟩
  · obtain ⟨u, h1, h2⟩ := h.rel.sto i o ho
    refine ⟨u, h1, h2.keep hk (fun _ _ q => q) (fun b x hx => ?_) (fun hx => hown _ 0 ⟨i, o, u, ho, h1, hx 0⟩)⟩
    have := hown b x ⟨i, o, u, ho, h1, hx⟩
    exact ⟨World.cell?_of_block (a := ⟨b, x, none⟩) this, World.frozen?_of_block (a := ⟨b, x, none⟩) this⟩
  · have e := h.ext
    have hb : ∀ b, b < w0.heap.size → w'.heap[b]? = w.heap[b]? := fun b hb => hg.block b (Nat.lt_of_lt_of_le hb e.size) fun q => by have := (hr b q.symm).1; omega
    exact ⟨hg.os.trans e.os, e.tape.trans hg.tape', hg.output.trans e.output, Nat.le_trans e.size hg.size, e.maps, e.more, e.less, e.own,
      fun b x h1 h2 => by
        have := e.cell b x h1 h2
        rw [World.cell?_of_block (a := ⟨b, x, none⟩) (hb b h1), World.frozen?_of_block (a := ⟨b, x, none⟩) (hb b h1)]; exact this,
      fun b h1 h2 => (hb b h1).trans (e.block b h1 h2)⟩

/-- Objects get other numbers, the slots are told anew, in whatever frame. -/
theorem At.renumC (h : At C 0 O0 w0 S0 m0 s a w S m) {E' : List (Nat × T)} {O' : List (Nat × Obj)} {d' : List Nat} (f : Nat → Nat) {ks : List Nat} (hks : O'.map (·.1) = ks) (hinj : ∀ i ∈ ks, ∀ j ∈ ks, f i = f j → i = j)
    (hs : ∀ p ∈ O', ∃ o, s.sto (f p.1) = some o ∧ m' p.1 = m (f p.1) ∧ (∀ u, ObjOk w S m u o → ObjOk w S m' u p.2) ∧ (∀ u b x, Own u p.2 b x → Own u o b x)) (hT : TmOk C' a') (henv : ∀ p ∈ E', RepV w S m' p.2 (a'.tmps.getD p.1 undef)) (hbig : ∀ i, 1000 ≤ i → m' i = none) : At C' 0 O0 w0 S0 m0 (mkS E' O' d') a' w S m' := by
  have hs' : ∀ i o, (mkS E' O' d').sto i = some o → ∃ o', s.sto (f i) = some o' ∧ m' i = m (f i) ∧ (∀ u, ObjOk w S m u o' → ObjOk w S m' u o) ∧ (∀ u b x, Own u o b x → Own u o' b x) := fun i o ho => hs (i, o) (stoL_mem ho)
  refine ⟨⟨⟨fun i o ho => ?_, fun i j o p u v hij ho hp hu hv b x hx hy => ?_, fun i o u ho hu b x hb hx => ?_, h.rel.live⟩, env_of henv, fun d _ _ => ⟨hbig _ (by omega), fun k _ => hbig _ (by omega)⟩, fun i hi => hbig i (by omega)⟩, hT,
    ?_, fun i u hi => absurd hi (Nat.not_lt_zero _)⟩
  · obtain ⟨o', k1, k2, k3, k4⟩ := hs' i o ho
    obtain ⟨u, g1, g2⟩ := h.rel.sto _ _ k1
    exact ⟨u, by rw [k2]; exact g1, k3 u g2⟩
  · obtain ⟨o', k1, k2, k3, k4⟩ := hs' i o ho
    obtain ⟨p', l1, l2, l3, l4⟩ := hs' j p hp
    exact h.rel.apart (f i) (f j) o' p' u v (fun e => hij (hinj _ (hks ▸ List.mem_map_of_mem (stoL_mem ho)) _ (hks ▸ List.mem_map_of_mem (stoL_mem hp)) e)) k1 l1 (by rw [← k2]; exact hu) (by rw [← l2]; exact hv) b x (k4 u b x hx) (l4 v b x hy)
  · obtain ⟨o', k1, k2, k3, k4⟩ := hs' i o ho
    exact h.rel.stab (f i) o' u k1 (by rw [← k2]; exact hu) b x hb (k4 u b x hx)
  · exact h.ext.sub fun b x ⟨i, o, u, h1, h2, h3⟩ =>
      let ⟨o', k1, k2, k3, k4⟩ := hs' i o h1
      ⟨f i, o', u, k1, by rw [← k2]; exact h2, k4 u b x h3⟩
end
end Go.Proofs.D
