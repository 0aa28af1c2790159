/- A region does what the evaluator says, whatever order it draws. -/
import Derived.Test.YtmhbfandkefnaaaDDraw
set_option linter.unusedVariables false
set_option linter.unusedSimpArgs false
namespace Go.Proofs.D
open Go.RowKit

section
variable {P : Program} {C : Ctx} {R : Type}

/-- The count of draws is no matter. -/
theorem StoRel.drew {σ : Nat → Option Obj} {w : World} {S : Cells} {m : Nat → Option MB} (h : StoRel σ w S m) (n : Nat) : StoRel σ { w with drawn := n } S m :=
  ⟨fun i o ho => by
    obtain ⟨u, h1, h2⟩ := h.sto i o ho
    exact ⟨u, h1, h2.keep ⟨fun _ _ q => q, fun _ _ _ _ q => q⟩ (fun _ _ q => q) (fun _ _ _ => ⟨rfl, rfl⟩) fun _ => rfl⟩, h.apart, h.stab, h.live⟩

theorem Rel.drew {s : St} {tm : Array Value} {w : World} {S : Cells} {m : Nat → Option MB} (h : Rel s tm w S m) (n : Nat) : Rel s tm { w with drawn := n } S m :=
  ⟨h.toStoRel.drew n, fun t => RepV.keep (w := w) (S := S) (w' := { w with drawn := n }) (S' := S) ⟨fun _ _ q => q, fun _ _ _ _ q => q⟩ (fun _ _ q => q) (h.env t), h.fresh, h.top⟩

theorem Ext.drew (O : Cells) (w : World) (S : Cells) (m : Nat → Option MB) (n : Nat) : Ext O w S m { w with drawn := n } S m O :=
  ⟨rfl, rfl, rfl, Nat.le_refl _, fun _ _ h => h, fun _ _ h => h, fun _ _ h => .inl h, fun _ _ h => .inl h, fun _ _ _ _ => ⟨rfl, rfl⟩, fun _ _ _ => rfl⟩

theorem aftOf_mem {p : Nat → Prop} : ∀ {l : List Edge}, (∀ e ∈ l, Region.binds .any e = true → p e.on) → ∀ x ∈ aftOf l, p x
  | [], _, x, hx => by cases hx
  | e :: l, h, x, hx => by
    have ih := aftOf_mem fun e' he => h e' (List.mem_cons_of_mem _ he)
    have hb := h e List.mem_cons_self
    simp only [aftOf] at hx
    split at hx
    · exact ih x hx
    · exact ih x hx
    · rename_i g1 g2
      rcases List.mem_cons.1 hx with q | q
      · subst q
        refine hb ?_
        unfold Region.binds
        split
        · rename_i a q; exact absurd q (g1 a)
        · rename_i a q; exact absurd q (g2 a)
        · rfl
      · exact ih x q

theorem aftOf_of {p : Nat → Prop} : ∀ {l : List Edge}, (∀ x ∈ aftOf l, p x) → ∀ e ∈ l, Region.binds .any e = true → p e.on
  | [], _, e, he, _ => by cases he
  | a :: l, h, e, he, hb => by
    have ih : (∀ x ∈ aftOf l, p x) → ∀ e ∈ l, Region.binds .any e = true → p e.on := aftOf_of
    simp only [aftOf] at h
    rcases List.mem_cons.1 he with q | q
    · subst q
      split at h
      · rename_i g; unfold Region.binds at hb; rw [g] at hb; cases hb
      · rename_i g; unfold Region.binds at hb; rw [g] at hb; cases hb
      · exact h _ List.mem_cons_self
    · split at h
      · exact ih h e q hb
      · exact ih h e q hb
      · exact ih (fun x hx => h x (List.mem_cons_of_mem _ hx)) e q hb

def listA (listed : Array Bool) (j : Nat) : Bool := listed.getD j false

theorem count_false_set {l : List Bool} {i : Nat} (h : l[i]? = some false) : (l.set i true).count false + 1 = l.count false := by
  obtain ⟨hlt, e⟩ := List.getElem?_eq_some_iff.1 h
  have hpos : 0 < l.count false := List.count_pos_iff.2 (by rw [← e]; exact List.getElem_mem hlt)
  rw [List.count_set hlt, e]
  simp
  omega

theorem draw_any (hC : CtxOk P C) {Q : Exit → Act → World → Prop} {ops : Array Oper} {s : St} {rs : List Rec} (ht : Trace C ops.toList 0 [] ops.toList s rs) (hp : pairsOk ops.toList (numbered 0 ops.toList) = true) {O : Cells} {w0 : World} {S0 : Cells} {m0 : Nat → Option MB}
    (hQ : ∀ a' w' S' m', Rel (apps rs s) a'.tmps w' S' m' → TmOk C a' → Ext O w0 S0 m0 w' S' m' (OwnSt (apps rs s).sto m') → Q .normal a' w') :
    ∀ (fuel : Nat) (listed : Array Bool) (a : Act) (w : World) (S : Cells) (m : Nat → Option MB), listed.size = ops.size → Closed ops.toList (listA listed) → listed.toList.count false ≤ fuel →
      Rel (replay rs (listA listed) 0 s) a.tmps w S m → TmOk C a → Ext O w0 S0 m0 w S m (OwnSt (replay rs (listA listed) 0 s).sto m) → wpAny P .any ops Q fuel listed a w := by
  have hlen := ht.len
  simp only [Array.length_toList] at hlen
  have p1 := (pairsOk_get hp).1
  -- where nothing may come up any more, all has come
  have hall : ∀ listed : Array Bool, listed.size = ops.size → Region.ready .any ops listed = [] → ∀ j, j < rs.length → listA listed j = true := by
    intro listed hsz hr j
    induction j using Nat.strongRecOn with
    | _ j ih =>
      intro hj
      cases hq : listA listed j with
      | true => rfl
      | false =>
        exfalso
        have hjo : j < ops.size := by omega
        have ho : ops[j]? = some ops[j] := Array.getElem?_eq_getElem hjo
        have : j ∈ Region.ready .any ops listed := mem_ready.2 ⟨by
            unfold listA at hq
            have hjl : j < listed.size := by omega
            simp only [Array.getD_eq_getD_getElem?, Array.getElem?_eq_getElem hjl, Option.getD_some] at hq ⊢
            exact hq, ops[j], ho, fun e he hb => by
          have := aftOf_of (p := fun x => x < j) (l := ops[j].after.toList) (fun x hx => by have := p1 j ops[j] (by rw [Array.getElem?_toList]; exact ho) x hx; omega) e (by simpa using he) hb
          exact ih e.on this (by omega)⟩
        rw [hr] at this; cases this
  have hfin : ∀ (listed : Array Bool) (a : Act) (w : World) (S : Cells) (m : Nat → Option MB), (∀ j, j < rs.length → listA listed j = true) →
      Rel (replay rs (listA listed) 0 s) a.tmps w S m → TmOk C a → Ext O w0 S0 m0 w S m (OwnSt (replay rs (listA listed) 0 s).sto m) → Q .normal a w := by
    intro listed a w S m h1 h2 h3 h4
    rw [replay_all h1] at h2 h4
    exact hQ a w S m h2 h3 h4
  intro fuel
  induction fuel with
  | zero =>
    intro listed a w S m hsz hcl hcnt hr hT he
    have hnone : ∀ j, j < rs.length → listA listed j = true := fun j hj => by
      have h0 : false ∉ listed.toList := List.count_eq_zero.1 (Nat.le_zero.1 hcnt)
      have hjl : j < listed.size := by omega
      unfold listA
      simp only [Array.getD_eq_getD_getElem?, Array.getElem?_eq_getElem hjl, Option.getD_some]
      cases hq : listed[j] with
      | true => rfl
      | false => exact absurd (by rw [← hq]; simp) h0
    refine ⟨?_, hfin listed a w S m hnone hr hT he⟩
    cases hq : Region.ready .any ops listed with
    | nil => rfl
    | cons j l =>
      have : j ∈ Region.ready .any ops listed := by rw [hq]; exact List.mem_cons_self
      obtain ⟨h1, o, h2, _⟩ := mem_ready.1 this
      have hj : j < ops.size := (Array.getElem?_eq_some_iff.1 h2).1
      have h3 := hnone j (by omega)
      unfold listA at h3
      have hjl : j < listed.size := by omega
      simp only [Array.getD_eq_getD_getElem?, Array.getElem?_eq_getElem hjl, Option.getD_some] at h1 h3
      rw [h3] at h1; cases h1
  | succ fuel ih =>
    intro listed a w S m hsz hcl hcnt hr hT he
    refine ⟨fun h0 => hfin listed a w S m (hall listed hsz h0) hr hT he, fun i hi => ?_⟩
    obtain ⟨hun, o, ho, haft⟩ := mem_ready.1 hi
    have hio : i < ops.size := (Array.getElem?_eq_some_iff.1 ho).1
    have hil : i < listed.size := by omega
    obtain ⟨r, hri⟩ : ∃ r, rs[i]? = some r := ⟨rs[i]'(by omega), List.getElem?_eq_getElem (by omega)⟩
    have hro : r.o = o := by
      have := ht.op i r hri
      rw [Array.getElem?_toList, ho] at this
      exact (Option.some.inj this).symm
    have hA : listA listed i = false := by
      unfold listA
      simp only [Array.getD_eq_getD_getElem?, Array.getElem?_eq_getElem hil, Option.getD_some] at hun ⊢
      exact hun
    have haft' : ∀ e ∈ aftOf r.o.after.toList, listA listed e = true := by
      rw [hro]
      exact aftOf_mem (p := fun x => listA listed x = true) fun e he hb => haft e (by simpa using he) hb
    obtain ⟨hran, hnext⟩ := draw_step ht hp hcl hri hA haft'
    -- behind it
    have hset : (fun j => listA listed j || Nat.beq j i) = listA (listed.setIfInBounds i true) := by
      funext j
      unfold listA
      by_cases hj : j = i
      · subst hj; simp [hil]
      · have : Nat.beq j i = false := by cases hb : Nat.beq j i with
          | false => rfl
          | true => exact absurd (Nat.eq_of_beq_eq_true hb) hj
        rw [this, Bool.or_false]
        simp [Array.getElem?_setIfInBounds_ne (Ne.symm hj)]
    rw [hset] at hnext
    have hcl' : Closed ops.toList (listA (listed.setIfInBounds i true)) := by
      rw [← hset]
      intro j oj hj hAj e he'
      by_cases e1 : j = i
      · subst e1
        rw [Array.getElem?_toList, ho] at hj
        cases hj
        rw [hro] at haft'
        simp [haft' e he']
      · have : Nat.beq j i = false := by cases hb : Nat.beq j i with
          | false => rfl
          | true => exact absurd (Nat.eq_of_beq_eq_true hb) e1
        simp only [this, Bool.or_false] at hAj
        simp [hcl j oj hj hAj e he']
    have hcnt' : (listed.setIfInBounds i true).toList.count false ≤ fuel := by
      have h1 : listed.toList[i]? = some false := by
        rw [Array.getElem?_toList, Array.getElem?_eq_getElem hil]
        simp only [Array.getD_eq_getD_getElem?, Array.getElem?_eq_getElem hil, Option.getD_some] at hun
        rw [hun]
      have := count_false_set h1
      rw [Array.toList_setIfInBounds]
      omega
    have hsz' : (listed.setIfInBounds i true).size = ops.size := by simp [hsz]
    have next : ∀ a' w' S' m', Rel (r.app (replay rs (listA listed) 0 s)) a'.tmps w' S' m' → TmOk C a' → Ext (OwnSt (replay rs (listA listed) 0 s).sto m) w S m w' S' m' (OwnSt (r.app (replay rs (listA listed) 0 s)).sto m') →
        wpAny P .any ops Q fuel (listed.setIfInBounds i true) a' w' := by
      intro a' w' S' m' h1 h2 h3
      exact ih _ a' w' S' m' hsz' hcl' hcnt' (by rw [hnext]; exact h1) h2 (by rw [hnext]; exact he.trans h3)
    unfold wpOp
    simp only [ho]
    have hw := hran.1.wanted rfl hr
    rw [hro] at hw
    rw [hw]
    cases hq : r.ran with
    | true =>
      simp only [if_true]
      left
      obtain ⟨g1, g2, _, _⟩ := hran.2.1 hq
      rw [hro] at g1
      have hev : evalOp C o (replay rs (listA listed) 0 s).env (replay rs (listA listed) 0 s).sto (fun t u => some (t, u)) = some (r.t, r.u) := by rw [← hro]; exact g2 _ _
      obtain ⟨t, u, hk, hh⟩ := wp_one hC hr hT (Q := Q) (next := wpAny P .any ops Q fuel (listed.setIfInBounds i true)) (ops := ops) g1 hev (by rw [hw, hq])
      cases hk
      have happ : r.app (replay rs (listA listed) 0 s) = (replay rs (listA listed) 0 s).step o r.t r.u := by
        unfold Rec.app
        rw [hro, hq, Bool.true_and, ← step_env o r.t r.u]
        rfl
      exact hh fun a' w' S' m' h1 h2 h3 => next a' w' S' m' (by rw [happ]; exact h1) h2 (by rw [happ]; exact h3)
    | false =>
      simp only [Bool.false_eq_true, if_false]
      obtain ⟨g1, g2⟩ := hran.2.2 hq
      have happ : r.app (replay rs (listA listed) 0 s) = { replay rs (listA listed) 0 s with env := putE o.dst .und (replay rs (listA listed) 0 s).env } := by
        unfold Rec.app
        rw [hro, hq, g1, g2]
        rfl
      refine next _ w S m (by rw [happ]; exact hr.skip _) (hT.put _ _) ?_
      rw [happ]
      exact Ext.refl ..

/-- **A region does what the evaluator says.** -/
theorem region_ok (hC : CtxOk P C) (hm : P.follows .mixedOrders = true) {Q : Exit → Act → World → Prop} {id : Nat} {ops : Array Oper} {d : Bool} {κ : St → Option R} {r : R} {s : St} {a : Act} {w : World} {S : Cells} {m : Nat → Option MB}
    (hr : Rel s a.tmps w S m) (hT : TmOk C a) (he : evalReg C d ops.toList s κ = some r)
    (hQ : ∀ s' a' w' S' m', κ s' = some r → Rel s' a'.tmps w' S' m' → TmOk C a' → Ext (OwnSt s.sto m) w S m w' S' m' (OwnSt s'.sto m') → Q .normal a' w') : (Code.region id ops d).wp P Q a w := by
  cases d with
  | false =>
    refine wp_region ?_
    have := evalOps_ok hC (Q := Q) ops.toList 0 (fun j => by rw [Nat.zero_add, Array.getElem?_toList]) hr hT he hQ
    rwa [Array.length_toList, ← List.range_eq_range'] at this
  | true =>
    obtain ⟨hp, he⟩ := bif_some he
    obtain ⟨rs, h1, h2⟩ := evalDraw_tr (my := []) (fun g hg => by cases hg) he
    have ht := h1.trace
    refine wp_region_any hm ?_
    have hnone : ∀ j, listA (Array.replicate ops.size false) j = false := fun j => by
      unfold listA
      rcases Nat.lt_or_ge j ops.size with q | q
      · simp [q]
      · simp [Array.getElem?_eq_none (xs := Array.replicate ops.size false) (i := j) (by simpa using q)]
    have h0 : replay rs (listA (Array.replicate ops.size false)) 0 s = s := by
      have : ∀ (rs : List Rec) (k : Nat) (s : St), replay rs (listA (Array.replicate ops.size false)) k s = s := by
        intro rs
        induction rs with
        | nil => intro k s; rfl
        | cons r rs ih => intro k s; simp only [replay, hnone, cond_false]; exact ih _ _
      exact this rs 0 s
    refine draw_any hC ht hp (O := OwnSt s.sto m) (w0 := w) (S0 := S) (m0 := m) (fun a' w' S' m' g1 g2 g3 => hQ _ a' w' S' m' h2 g1 g2 g3) ops.size _ a _ S m (by simp) (fun j o _ hA => by rw [hnone] at hA; cases hA) ?_ ?_ hT ?_
    · simp
    · rw [h0]; exact hr.drew _
    · rw [h0]; exact Ext.drew ..
end
end Go.Proofs.D
