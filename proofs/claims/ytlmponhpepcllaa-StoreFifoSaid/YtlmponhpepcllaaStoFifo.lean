/- Who waits longer is served first. -/
import Derived.Test.YtlmponhpepcllaaStoPlay
set_option linter.unusedVariables false
namespace Go.Proofs.Pure
open Go.Proofs.D Go.Proofs.F

def owedOf (s : Sto) (id sku : Int) : Int := firstOf sku (findS s id).1.2.2.2.2.2.1
theorem owedOf_at {s : Sto} {id sku : Int} {k : Nat} (h : atS s.1 id = some k) : owedOf s id sku = owedAt s k sku := by
  unfold owedOf owedAt findS; rw [h]

/-- Who is served, one behind another. -/
def Serve (s : Sto) (sku ware : Int) : List Int → Int → List Tk → Prop
  | _, _, [] => True
  | [], _, _ :: _ => False
  | id :: ids, q, t :: ts => 1 ≤ q ∧ t = (id, (sku, (ware, (minI q (owedOf s id sku), ())))) ∧ Serve s sku ware ids (q - minI q (owedOf s id sku)) ts
theorem mem_of {l : List Wt} {sku id : Int} : id ∈ ofW l sku ↔ ((id, (sku, ())) : Wt) ∈ l := by
  unfold ofW
  rw [List.mem_flatMap]
  constructor
  · rintro ⟨w, hw, h⟩
    unfold ofG at h
    cases q : w.2.1 == sku with
    | false => rw [q] at h; cases h
    | true =>
      rw [q] at h
      have e : id = w.1 := List.mem_singleton.1 h
      have e2 : w.2.1 = sku := by simpa using q
      obtain ⟨w1, w2, _⟩ := w
      have e : id = w1 := e
      have e2 : w2 = sku := e2
      rw [e, ← e2]; exact hw
  · intro h
    refine ⟨_, h, ?_⟩
    unfold ofG
    simp
theorem of_nodup {l : List Wt} (h : l.Nodup) (sku : Int) : (ofW l sku).Nodup := by
  induction l with
  | nil => exact List.nodup_nil
  | cons w l ih =>
    have h := List.nodup_cons.1 h
    show (ofG sku w ++ ofW l sku).Nodup
    unfold ofG
    cases q : w.2.1 == sku with
    | false => exact ih h.2
    | true =>
      refine List.nodup_cons.2 ⟨fun t => h.1 ?_, ih h.2⟩
      have := mem_of.1 t
      have e2 : w.2.1 = sku := by simpa using q
      obtain ⟨w1, w2, _⟩ := w
      have e2 : w2 = sku := e2
      rw [e2]; exact this
theorem of_erase {l : List Wt} {sku id : Int} {r : List Int} (h : ofW l sku = id :: r) : ofW (l.erase (id, (sku, ()))) sku = r := by
  induction l with
  | nil => cases h
  | cons w l ih =>
    have h : ofG sku w ++ ofW l sku = id :: r := h
    by_cases c : w = (id, (sku, ()))
    · rw [c, List.erase_cons_head]
      rw [c] at h
      have e : ofG sku ((id, (sku, ())) : Wt) = [id] := by unfold ofG; simp
      rw [e] at h
      exact (List.cons.inj h).2
    · rw [List.erase_cons_tail (by simpa using c)]
      show ofG sku w ++ ofW (l.erase (id, (sku, ()))) sku = r
      have hn : ofG sku w = [] := by
        unfold ofG at h ⊢
        cases q : w.2.1 == sku with
        | false => rfl
        | true =>
          exfalso
          rw [q] at h
          have e : w.1 = id := (List.cons.inj h).1
          have e2 : w.2.1 = sku := by simpa using q
          obtain ⟨w1, w2, _⟩ := w
          have e : w1 = id := e
          have e2 : w2 = sku := e2
          exact c (by rw [e, e2])
      rw [hn] at h ⊢
      exact ih h
theorem owed_pos {s : Sto} (h : GoodSt s) {sku id : Int} (hm : id ∈ ofW s.2.1 sku) : ∃ k, atS s.1 id = some k ∧ 1 ≤ owedAt s k sku ∧ owedAt s k sku < 9223372036854775808 := by
  have hw := (h.mem _).1 (mem_of.1 hm)
  obtain ⟨o, ho, e1, x, hx, e2⟩ := mem_owe.1 hw
  have e1 : o.1 = id := e1
  have e2 : x.1 = sku := e2
  obtain ⟨k, hk, e⟩ := List.getElem_of_mem ho
  have h2 := (P1_iff.1 h.p1) k o (by rw [← e]; exact List.getElem?_eq_getElem hk)
  rw [e1] at h2
  have eo : s.1.getD k ord0 = o := by have := getD_at hk; rw [List.getElem?_eq_getElem hk, e] at this; cases this; rfl
  have hf := h.fo o ho
  have hG := good_of hf h2.1
  have hne := (has_first (a := sku) hG.owes).1 ⟨x, hx, e2⟩
  have hnn := first_nonneg (k := sku) hG.owes
  refine ⟨k, h2.2, ?_, ?_⟩
  · unfold owedAt; rw [eo]; omega
  · unfold owedAt; rw [eo, first_mem hG.owes x hx e2]; exact (wf_i64 (hf.w4 x hx).2.1).2

/-- What is told to fill. -/
theorem fills_serve {s : Sto} (h : GoodSt s) (sku ware : Int) (busy : List Int) : ∀ (ids : List Int) (i : Nat) (q : Int) (out : List Tk), (∀ id ∈ ids, id ∈ ofW s.2.1 sku) → 0 ≤ q → q < 9223372036854775808 →
    ∃ ts, walkL (fun _ id a => fillF s sku ware busy id a) (fun a => a.2) i ids (q, out) = out ++ ts ∧ Serve s sku ware ids q ts
  | [], _, q, out, _, _, _ => ⟨[], by simp [walkL], trivial⟩
  | id :: ids, i, q, out, hm, h0, h1 => by
    obtain ⟨k, hk, p1, p2⟩ := owed_pos h (hm id List.mem_cons_self)
    rw [walkL]
    unfold fillF
    rw [hk]
    simp only []
    cases c : decide (q < 1) || (decide (12 ≤ out.length) || decide (id ∈ busy)) with
    | true => exact ⟨[], by simp, trivial⟩
    | false =>
      simp only [cond_false]
      have hq : 1 ≤ q := by
        simp only [Bool.or_eq_false_iff, decide_eq_false_iff_not] at c
        omega
      have hmin : 1 ≤ minI q (owedAt s k sku) ∧ minI q (owedAt s k sku) ≤ q := by unfold minI; split <;> omega
      rw [wrap_i64 (by omega) (by omega)]
      obtain ⟨ts, e1, e2⟩ := fills_serve h sku ware busy ids (i + 1) (q - minI q (owedAt s k sku)) (out ++ [(id, (sku, (ware, (minI q (owedAt s k sku), ()))))]) (fun x hx => hm x (List.mem_cons_of_mem _ hx)) (by omega) (by omega)
      refine ⟨(id, (sku, (ware, (minI q (owedAt s k sku), ())))) :: ts, ?_, hq, ?_, ?_⟩
      · have : (fun (_ : Nat) id a => fillF s sku ware busy id a) = fun _ id a => fillF s sku ware busy id a := rfl
        rw [List.append_assoc] at e1
        exact e1
      · rw [owedOf_at hk]
      · rw [owedOf_at hk]; exact e2
theorem Serve.congr {s s' : Sto} {sku ware : Int} : ∀ {ids : List Int} {q : Int} {ts : List Tk}, Serve s sku ware ids q ts → (∀ id ∈ ids, owedOf s' id sku = owedOf s id sku) → Serve s' sku ware ids q ts
  | ids, q, [], h, _ => by cases ids <;> trivial
  | [], q, t :: ts, h, _ => h.elim
  | id :: ids, q, t :: ts, ⟨h1, h2, h3⟩, hs => by
    have e := hs id List.mem_cons_self
    refine ⟨h1, by rw [e]; exact h2, ?_⟩
    rw [e]
    exact Serve.congr h3 fun x hx => hs x (List.mem_cons_of_mem _ hx)
/-- What is known of each. -/
theorem Serve.all {s : Sto} {sku ware : Int} : ∀ {ids : List Int} {q : Int} {ts : List Tk}, Serve s sku ware ids q ts → (∀ id ∈ ids, 1 ≤ owedOf s id sku) →
    ts.length ≤ ids.length ∧ (∀ (i : Nat) (t : Tk), ts[i]? = some t → ids[i]? = some t.1 ∧ t.2.1 = sku ∧ t.2.2.1 = ware ∧ 1 ≤ t.2.2.2.1 ∧ t.2.2.2.1 ≤ owedOf s t.1 sku) ∧ (0 ≤ q → total (ts.map qtyOf) ≤ q)
  | ids, q, [], h, _ => ⟨Nat.zero_le _, fun i t e => by simp at e, fun h => h⟩
  | [], q, t :: ts, h, _ => h.elim
  | id :: ids, q, t :: ts, ⟨h1, h2, h3⟩, hp => by
    obtain ⟨a, b, c⟩ := Serve.all h3 fun x hx => hp x (List.mem_cons_of_mem _ hx)
    have hw := hp id List.mem_cons_self
    have hmin : 1 ≤ minI q (owedOf s id sku) ∧ minI q (owedOf s id sku) ≤ q ∧ minI q (owedOf s id sku) ≤ owedOf s id sku := by unfold minI; split <;> omega
    refine ⟨by simp; exact a, fun i x e => ?_, fun _ => ?_⟩
    · cases i with
      | zero =>
        simp at e
        subst e
        rw [h2]
        exact ⟨rfl, rfl, rfl, hmin.1, hmin.2.2⟩
      | succ i => exact b i x (by simpa using e)
    · have := c (by omega)
      show qtyOf t + total (ts.map qtyOf) ≤ q
      rw [h2]
      show minI q (owedOf s id sku) + _ ≤ q
      omega

/-! ### What comes of it -/
structure Served (a b : Sto) (sku : Int) (ts : List Tk) (w : Nat) : Prop where
  good : GoodSt b
  fnd : ∀ id, (findS b id).2 = (findS a id).2
  other : ∀ id, (∀ t ∈ ts, t.1 ≠ id) → owedOf b id sku = owedOf a id sku
  each : ∀ t ∈ ts, owedOf b t.1 sku = owedOf a t.1 sku - t.2.2.2.1
  whole : w = (ts.filter fun t => owedOf b t.1 sku == 0).length
  now : ofW b.2.1 sku = (ofW a.2.1 sku).drop w
  most : w ≤ ts.length ∧ ts.length ≤ w + 1
theorem fill_serve (sku ware : Int) (hs : 0 ≤ sku ∧ sku < 4) (hwr : 0 ≤ ware ∧ ware < 4) (n : Nat) : ∀ (ts : List Tk) (i : Nat) (q : Int) (a : Sto), GoodSt a → q < 9223372036854775808 → (∀ t ∈ ts, WfE kTake t) → i + ts.length = n → Serve a sku ware (ofW a.2.1 sku) q ts →
    ∃ b w, walkL (X := Sto ⊕ Int) (fillK n) (fun a => .inl a) i ts a = .inl b ∧ Served a b sku ts w
  | [], i, q, a, h, _, _, _, _ => ⟨a, 0, rfl, h, fun _ => rfl, fun _ _ => rfl, (fun t ht => nomatch ht), rfl, rfl, by simp⟩
  | t :: ts, i, q, a, h, hq9, hw, hi, hS => by
    cases hids : ofW a.2.1 sku with
    | nil => rw [hids] at hS; exact hS.elim
    | cons id ids =>
      rw [hids] at hS
      obtain ⟨s1, s2, s3⟩ := hS
      have hmem : id ∈ ofW a.2.1 sku := by rw [hids]; exact List.mem_cons_self
      obtain ⟨k, hk, p1, p2⟩ := owed_pos h hmem
      rw [owedOf_at hk] at s2 s3
      have hnod := of_nodup h.nd sku
      rw [hids] at hnod
      have hnod := List.nodup_cons.1 hnod
      have hmin : 1 ≤ minI q (owedAt a k sku) ∧ minI q (owedAt a k sku) ≤ owedAt a k sku := by unfold minI; split <;> omega
      have ht := hw t List.mem_cons_self
      have hlt := at_lt hk
      have hm := List.mem_of_getElem? (getD_at hlt)
      have hf := h.fo _ hm
      have hg := good_at h.p1 _ hm
      have hG := good_of hf hg
      have e1 : t.1 = id := by rw [s2]
      have e2 : t.2.1 = sku := by rw [s2]
      have e3 : t.2.2.1 = ware := by rw [s2]
      have e4 : t.2.2.2.1 = minI q (owedAt a k sku) := by rw [s2]
      have hid := at_id hk
      have hv : Valid (a.1.getD k ord0).1 t := ⟨by rw [hid, e1], by rw [e2]; exact hs, by rw [e3]; exact hwr, by rw [e4]; omega⟩
      -- the step
      have hstep : fillStep n i t a = .inl (a.1.set k (filled (a.1.getD k ord0) t), (bif firstOf t.2.1 (filled (a.1.getD k ord0) t).2.2.2.2.2.1 == 0 then leaveW a.2.1 (t.1, (t.2.1, ())) else a.2.1, ())) := by
        unfold fillStep
        rw [e1, hk, e2, hids]
        simp only [bne_self_eq_false, cond_false]
        have hc : (decide (i + 1 < n) && decide (t.2.2.2.1 < owedAt a k sku)) = false := by
          by_cases c : t.2.2.2.1 < owedAt a k sku
          · have hz : q - minI q (owedAt a k sku) = 0 := by rw [e4] at c; unfold minI at c ⊢; split at c <;> (try split) <;> omega
            cases ts with
            | nil =>
              have : ¬ i + 1 < n := by simp at hi; omega
              rw [dec_f this]; rfl
            | cons t' ts' =>
              exfalso
              rw [hz] at s3
              cases ids with
              | nil => exact s3.elim
              | cons id' ids' => have := s3.1; omega
          · rw [dec_f c]; simp
        rw [hc]
        have hfill : fillO (a.1.getD k ord0) t = (filled (a.1.getD k ord0) t, (0, ())) := by
          have hb : tkBase 4 4 (a.1.getD k ord0).1 t = true := (base_valid ht).2 hv
          unfold fillO
          rw [hg, hb]
          simp only [Bool.not_true, cond_false]
          rw [dec_f (by rw [e2, e4]; unfold owedAt at hmin; unfold owedAt; omega)]; rfl
        rw [hfill]
        simp only [bne_self_eq_false, cond_false]
      have hgood := fill_good h ht hstep
      obtain ⟨f1, _, f3⟩ := filled_good hf hG hv (by rw [e2, e4]; unfold owedAt at hmin; unfold owedAt; omega)
      obtain ⟨c, hc⟩ : ∃ c : Sto, c = (a.1.set k (filled (a.1.getD k ord0) t), (bif firstOf t.2.1 (filled (a.1.getD k ord0) t).2.2.2.2.2.1 == 0 then leaveW a.2.1 (t.1, (t.2.1, ())) else a.2.1, ())) := ⟨_, rfl⟩
      rw [← hc] at hstep hgood
      have hc1 : c.1 = a.1.set k (filled (a.1.getD k ord0) t) := by rw [hc]
      have hatc : ∀ j, atS c.1 j = atS a.1 j := fun j => by rw [hc1]; exact at_ids (ids_set (o := filled (a.1.getD k ord0) t) rfl hlt) j
      have hfnd : ∀ j, (findS c j).2 = (findS a j).2 := fun j => by
        unfold findS; rw [hatc j]; cases atS a.1 j <;> rfl
      have hget : ∀ j, j < a.1.length → c.1.getD j ord0 = if k = j then filled (a.1.getD k ord0) t else a.1.getD j ord0 := fun j hj => by
        rw [hc1, List.getD_eq_getElem?_getD, List.getElem?_set]
        by_cases e : k = j
        · subst e; rw [if_pos rfl, if_pos hlt, if_pos rfl]; rfl
        · rw [if_neg e, if_neg e, List.getD_eq_getElem?_getD]
      have hoth : ∀ j, j ≠ id → owedOf c j sku = owedOf a j sku := fun j hj => by
        unfold owedOf findS
        rw [hatc j]
        cases hkj : atS a.1 j with
        | none => rfl
        | some m =>
          have hne : k ≠ m := fun e => by rw [e] at hid; have := at_id hkj; exact hj (this.symm.trans hid)
          show firstOf sku (c.1.getD m ord0).2.2.2.2.2.1 = firstOf sku (a.1.getD m ord0).2.2.2.2.2.1
          rw [hget m (at_lt hkj), if_neg hne]
      have hown : owedOf c id sku = owedOf a id sku - t.2.2.2.1 := by
        rw [owedOf_at hk, owedOf_at (s := c) (k := k) (by rw [hatc]; exact hk)]
        unfold owedAt
        rw [hget k hlt, if_pos rfl]
        have := f3 sku
        rw [if_pos e2] at this
        exact this
      have hfirst : firstOf t.2.1 (filled (a.1.getD k ord0) t).2.2.2.2.2.1 = owedOf c id sku := by
        rw [owedOf_at (s := c) (k := k) (by rw [hatc]; exact hk), e2]
        unfold owedAt
        rw [hget k hlt, if_pos rfl]
      have hc2 : c.2.1 = (bif owedOf c id sku == 0 then leaveW a.2.1 (id, (sku, ())) else a.2.1) := by rw [← hfirst, hc, e1, e2]
      rw [walkL]
      unfold fillK
      rw [hstep]
      by_cases z : owedOf c id sku = 0
      · -- it is served whole
        have hof : ofW c.2.1 sku = ids := by
          rw [hc2, show (owedOf c id sku == 0) = true by simp [z]]
          simp only [cond_true]
          rw [leave_eq]
          exact of_erase hids
        have hS' : Serve c sku ware (ofW c.2.1 sku) (q - minI q (owedAt a k sku)) ts := by
          rw [hof]
          exact s3.congr fun x hx => hoth x fun e => hnod.1 (e ▸ hx)
        obtain ⟨b, w, g1, g2⟩ := fill_serve sku ware hs hwr n ts (i + 1) (q - minI q (owedAt a k sku)) c hgood (by omega) (fun x hx => hw x (List.mem_cons_of_mem _ hx)) (by simp at hi; omega) hS'
        have hall := hS'.all fun x hx => by
          obtain ⟨k', hk', p1', _⟩ := owed_pos hgood hx
          rw [owedOf_at hk']; exact p1'
        have hnotin : ∀ x ∈ ts, x.1 ≠ id := fun x hx e => by
          obtain ⟨j, hj, ej⟩ := List.getElem_of_mem hx
          have := (hall.2.1 j x (by rw [← ej]; exact List.getElem?_eq_getElem hj)).1
          rw [hof] at this
          exact hnod.1 (e ▸ get_mem this)
        have hidb : owedOf b id sku = owedOf c id sku := g2.other id hnotin
        refine ⟨b, w + 1, g1, g2.good, fun j => (g2.fnd j).trans (hfnd j), fun j hj => ?_, fun x hx => ?_, ?_, ?_, ?_⟩
        · rw [g2.other j fun x hx => hj x (List.mem_cons_of_mem _ hx), hoth j fun e => hj t List.mem_cons_self (e1.trans e.symm)]
        · rcases List.mem_cons.1 hx with e | e
          · rw [e, e1, hidb, hown]
          · rw [g2.each x e, hoth x.1 (hnotin x e)]
        · rw [List.filter_cons_of_pos (by rw [e1, hidb, z]; rfl), List.length_cons, g2.whole]
        · rw [g2.now, hof, hids, List.drop_succ_cons]
        · have := g2.most; rw [List.length_cons]; omega
      · -- it is served in part, and is the last one
        have hlast : ts = [] := by
          have hn : minI q (owedAt a k sku) < owedAt a k sku := by
            rw [hown, owedOf_at hk, e4] at z
            omega
          have hz : q - minI q (owedAt a k sku) = 0 := by unfold minI at hn ⊢; split at hn <;> (try split) <;> omega
          cases ts with
          | nil => rfl
          | cons t' ts' =>
            exfalso
            rw [hz] at s3
            cases ids with
            | nil => exact s3.elim
            | cons id' ids' => have := s3.1; omega
        subst hlast
        refine ⟨c, 0, rfl, hgood, hfnd, fun j hj => hoth j fun e => hj t List.mem_cons_self (e1.trans e.symm), fun x hx => ?_, ?_, ?_, by simp⟩
        · rw [List.mem_singleton.1 hx, e1, hown]
        · rw [List.filter_cons_of_neg (by rw [e1]; simpa using z)]; rfl
        · rw [hc2, show (owedOf c id sku == 0) = false by simpa using z]; rfl
end Go.Proofs.Pure
