/- What steps a program has; each may be. -/
import Derived.Test.YtkipelkedgckoaaGroups
set_option linter.unusedVariables false
namespace Go.Proofs.Pure
open Go.Proofs.D Go.Proofs.F

def oneS (tg w s q : Int) : Stp := (tg, (w, ([(s, (q, ()))], ())))
def owS (p : Prg) : List Stp := match p.2.2.2.2.2.1 with | [] => [] | a :: l => [((bif p.1 == 2 then 8 else 7), (0, (a :: l, ())))]
def sumQ (t : List Tk) : Int := (sumOf (t.map qtyOf)).1
def fillS (p : Prg) : List Stp := match p.2.2.2.2.1 with | [] => [] | _ :: _ => [oneS 1 p.2.2.2.2.2.2.2.2.1 p.2.2.2.2.2.2.1 (sumQ p.2.2.2.2.1), oneS 8 0 p.2.2.2.2.2.2.1 (sumQ p.2.2.2.2.1)]
def stepsP (p : Prg) : List Stp :=
  bif p.1 == 6 then [oneS 6 p.2.2.2.2.2.2.2.1 p.2.2.2.2.2.2.1 p.2.2.2.2.2.2.2.2.2.1, oneS 5 p.2.2.2.2.2.2.2.2.1 p.2.2.2.2.2.2.1 p.2.2.2.2.2.2.2.2.2.1]
  else bif p.1 == 5 then oneS 5 p.2.2.2.2.2.2.2.2.1 p.2.2.2.2.2.2.1 p.2.2.2.2.2.2.2.2.2.1 :: fillS p
  else grps p.1 p.2.2.2.2.1 ++ owS p
def stepsV (p : Prg) : List Stp := bif goodP 4 4 p then stepsP p else []

/-! ### What is known of a program that may be -/
structure Good4 (p : Prg) : Prop where
  kind : p.1 = 1 ∨ p.1 = 2 ∨ p.1 = 3 ∨ p.1 = 4
  sorted : Sorted p.2.1 p.2.2.2.2.1
  owes : linesB 4 p.2.2.2.2.2.1 = true
  some : p.2.2.2.2.1 ≠ [] ∨ p.2.2.2.2.2.1 ≠ []
  few : p.1 = 3 ∨ p.1 = 4 → p.2.2.2.2.2.1 = []
structure Good5 (p : Prg) : Prop where
  kind : p.1 = 5
  sku : 0 ≤ p.2.2.2.2.2.2.1 ∧ p.2.2.2.2.2.2.1 < 4
  ware : 0 ≤ p.2.2.2.2.2.2.2.2.1 ∧ p.2.2.2.2.2.2.2.2.1 < 4
  qty : 1 ≤ p.2.2.2.2.2.2.2.2.2.1
  fills : fillsB p = true
structure Good6 (p : Prg) : Prop where
  kind : p.1 = 6
  sku : 0 ≤ p.2.2.2.2.2.2.1 ∧ p.2.2.2.2.2.2.1 < 4
  ware : 0 ≤ p.2.2.2.2.2.2.2.2.1 ∧ p.2.2.2.2.2.2.2.2.1 < 4
  src : 0 ≤ p.2.2.2.2.2.2.2.1 ∧ p.2.2.2.2.2.2.2.1 < 4
  qty : 1 ≤ p.2.2.2.2.2.2.2.2.2.1

theorem want_first {l : List Ln} (h : linesB 4 l = true) (hw : ∀ x ∈ l, WfE kLine x) (hne : l ≠ []) : ∃ k : Nat, k < 4 ∧ 1 ≤ (wantOf l).getD k 0 := by
  have hlt := linesB_lt h
  have pos : ∀ x ∈ l, 0 ≤ x.1 ∧ x.1 < 4 := fun x hx => ⟨(wf_u8 (hw x hx).1).1, (hlt x hx).1⟩
  rcases linesB_shape h with e | ⟨a, e⟩ | ⟨a, b, e, h1⟩ | ⟨a, b, c, e, h1, h2⟩
  · exact absurd e hne
  · subst e
    have pa := pos a (by simp); have qa := hlt a (by simp)
    refine ⟨a.1.toNat, by omega, ?_⟩
    show 1 ≤ ((List.replicate 4 0).set a.1.toNat a.2.1).getD a.1.toNat 0
    rw [set_at _ _ _ _ (by simp) (by omega), if_pos rfl]; exact qa.2
  · subst e
    have pa := pos a (by simp); have pb := pos b (by simp); have qa := hlt a (by simp)
    refine ⟨a.1.toNat, by omega, ?_⟩
    show 1 ≤ (((List.replicate 4 0).set a.1.toNat a.2.1).set b.1.toNat b.2.1).getD a.1.toNat 0
    rw [set_at _ _ _ _ (by simp) (by omega), if_neg (by omega), set_at _ _ _ _ (by simp) (by omega), if_pos rfl]; exact qa.2
  · subst e
    have pa := pos a (by simp); have pb := pos b (by simp); have pc := pos c (by simp); have qa := hlt a (by simp)
    refine ⟨a.1.toNat, by omega, ?_⟩
    show 1 ≤ ((((List.replicate 4 0).set a.1.toNat a.2.1).set b.1.toNat b.2.1).set c.1.toNat c.2.1).getD a.1.toNat 0
    rw [set_at _ _ _ _ (by simp) (by omega), if_neg (by omega), set_at _ _ _ _ (by simp) (by omega), if_neg (by omega), set_at _ _ _ _ (by simp) (by omega), if_pos rfl]; exact qa.2

theorem len0 {α : Type} {l : List α} (h : ((l.length : Int) == 0) = true) : l = [] := by
  have : (l.length : Int) = 0 := by simpa using h
  exact List.eq_nil_of_length_eq_zero (by omega)
theorem lenpos {α : Type} {l : List α} (h : decide ((l.length : Int) > 0) = true) : l ≠ [] := by
  intro e; subst e; simp at h

theorem good_cases {p : Prg} (hf : Few p) (h : goodP 4 4 p = true) : Good4 p ∨ Good5 p ∨ Good6 p := by
  obtain ⟨k1, k2, k3⟩ := hf.k
  have hg : goodKind 4 4 p = true := by
    unfold goodP at h; simp only [Bool.and_eq_true] at h; exact h.2
  unfold goodKind at hg
  cases e1 : p.1 == 1 with
  | true =>
    rw [e1] at hg
    simp only [cond_true, Bool.and_eq_true] at hg
    obtain ⟨_, _, g3, g4, g5, g6, g7, g8⟩ := hg
    refine .inl ⟨.inl (by simpa using e1), sorted_of hf.w2 g5, g6, ?_, fun q => ?_⟩
    · by_cases ht : p.2.2.2.2.1 = []
      · refine .inr fun ho => ?_
        obtain ⟨k, hk, hq⟩ := want_first g4 hf.w1 (lenpos g3)
        rw [ht, ho] at g7
        unfold coveredB coverP coverK partsOf namedOf at g7
        simp only [List.flatMap_nil, List.append_nil, sumOf_nil, Bool.true_and, Bool.and_eq_true, Bool.not_eq_true', bne_eq_false_iff_eq] at g7
        obtain ⟨z0, z1, z2, z3⟩ := g7
        have : k = 0 ∨ k = 1 ∨ k = 2 ∨ k = 3 := by omega
        rcases this with e | e | e | e <;> subst e <;> omega
      · exact .inl ht
    · have : p.1 = 1 := by simpa using e1
      omega
  | false =>
  rw [e1] at hg
  cases e2 : p.1 == 2 with
  | true =>
    rw [e2] at hg
    simp only [cond_true, cond_false, Bool.and_eq_true] at hg
    obtain ⟨_, _, g3, g4, g5⟩ := hg
    refine .inl ⟨.inr (.inl (by simpa using e2)), sorted_of hf.w2 g3, g4, ?_, fun q => ?_⟩
    · by_cases ht : p.2.2.2.2.1 = []
      · refine .inr fun ho => ?_
        rw [ht, ho] at g5; simp at g5
      · exact .inl ht
    · have : p.1 = 2 := by simpa using e2
      omega
  | false =>
  rw [e2] at hg
  cases e3 : (p.1 == 3) || (p.1 == 4) with
  | true =>
    rw [e3] at hg
    simp only [cond_true, cond_false, Bool.and_eq_true] at hg
    obtain ⟨_, _, g3, g4, g5⟩ := hg
    have ho := len0 g5
    refine .inl ⟨?_, sorted_of hf.w2 g3, by rw [ho]; rfl, .inl (lenpos g4), fun _ => ho⟩
    simp only [Bool.or_eq_true, beq_iff_eq] at e3
    omega
  | false =>
  rw [e3] at hg
  cases e5 : p.1 == 5 with
  | true =>
    rw [e5] at hg
    unfold movedB at hg
    simp only [cond_true, cond_false, Bool.and_eq_true, decide_eq_true_eq] at hg
    obtain ⟨⟨_, _, _, g1, g2, g3⟩, _, g4⟩ := hg
    exact .inr (.inl ⟨by simpa using e5, ⟨k1.1, g1⟩, ⟨k3.1, g2⟩, by omega, g4⟩)
  | false =>
  rw [e5] at hg
  cases e6 : p.1 == 6 with
  | true =>
    rw [e6] at hg
    unfold movedB at hg
    simp only [cond_true, cond_false, Bool.and_eq_true, decide_eq_true_eq] at hg
    obtain ⟨⟨_, _, _, g1, g2, g3⟩, _, g4, _⟩ := hg
    exact .inr (.inr ⟨by simpa using e6, ⟨k1.1, g1⟩, ⟨k3.1, g2⟩, ⟨k2.1, g4⟩, by omega⟩)
  | false => rw [e6] at hg; simp at hg

/-! ### Each step may be -/
def FineS (s : Stp) : Prop := WfE kStep s ∧ goodS 4 4 s = true

theorem wf_mk8 {n : Int} (h1 : 0 ≤ n) (h2 : n < 256) : WfE (.int .u8) n := by
  show (Lit.int .u8 n).wf = true
  simp only [Lit.wf, Bool.and_eq_true, decide_eq_true_eq, show IntKind.u8.min = 0 by decide, show IntKind.u8.max = 255 by decide]; omega
theorem wf_mk64 {n : Int} (h1 : -9223372036854775808 ≤ n) (h2 : n < 9223372036854775808) : WfE (.int .i64) n := by
  show (Lit.int .i64 n).wf = true
  simp only [Lit.wf, Bool.and_eq_true, decide_eq_true_eq, show IntKind.i64.min = -9223372036854775808 by decide, show IntKind.i64.max = 9223372036854775807 by decide]; omega
theorem maxLen_ge {n : Nat} (h : n < 1000000) : n ≤ maxLen := by unfold maxLen; omega

theorem fineS44 : fineS 4 4 = true := by decide
theorem fine_mk {tg w : Int} {a : List Ln} (ht : 1 ≤ tg ∧ tg ≤ 8) (hw : 0 ≤ w ∧ w < 4) (h7 : 7 ≤ tg → w = 0) (hl : 1 ≤ a.length ∧ a.length ≤ 3) (ha : ∀ y ∈ a, WfE kLine y ∧ y.1 < 4 ∧ 1 ≤ y.2.1)
    (hr : ∀ i, i + 1 < a.length → (at0 a i).1 < (at0 a (i + 1)).1) : FineS (tg, (w, (a, ()))) := by
  refine ⟨⟨wf_mk8 (n := tg) (by omega) (by omega), wf_mk8 (n := w) (by omega) (by omega), ⟨maxLen_ge (n := a.length) (by omega), fun y hy => (ha y hy).1⟩, trivial⟩, ?_⟩
  unfold goodS
  simp only [fineS44, dec_t ht.1, dec_t ht.2, dec_t hl.1, dec_t hl.2, Bool.true_and, Bool.and_eq_true]
  refine ⟨allFrom_iff.2 fun j _ hj => ?_, ?_⟩
  · have hj : j < a.length := by omega
    have hm := ha (at0 a j) (List.mem_of_getElem? (at_get hj))
    unfold goodR risesB
    rw [dec_t hm.2.1, dec_t hm.2.2]
    cases j with
    | zero => rfl
    | succ j => rw [Nat.add_sub_cancel, dec_t (hr j hj)]; simp
  · by_cases q : 7 ≤ tg
    · rw [dec_t q]; simp [h7 q]
    · rw [dec_f q]; simp; omega
theorem fine_one {tg w s q : Int} (ht : 1 ≤ tg ∧ tg ≤ 8) (hw : 0 ≤ w ∧ w < 4) (h7 : 7 ≤ tg → w = 0) (hs : 0 ≤ s ∧ s < 4) (hq : 1 ≤ q ∧ q < 9223372036854775808) : FineS (oneS tg w s q) :=
  fine_mk ht hw h7 (by simp) (fun y hy => by
    rw [List.mem_singleton.1 hy]
    exact ⟨⟨wf_mk8 (n := s) (by omega) (by omega), wf_mk64 (n := q) (by omega) (by omega), trivial⟩, hs.2, hq.1⟩) (fun i hi => by simp at hi)

theorem itemsAt_range (w : Int) (t : List Tk) : ∀ j, j ≤ t.length → itemsAt w (t.take j) = ((List.range j).filter fun i => (at1 t i).2.2.1 == w).map fun i => lineOf (at1 t i)
  | 0, _ => by simp [itemsAt]
  | j + 1, h => by
    rw [take_snoc (by omega), itemsAt_snoc, itemsAt_range w t j (by omega), List.range_succ, List.filter_append, List.map_append]
    congr 1
    unfold itemG
    by_cases e : (at1 t j).2.2.1 = w
    · simp [e]
    · rw [show ((at1 t j).2.2.1 == w) = false by simp [e]]; simp [e]

theorem group_fine {id tg w : Int} {t : List Tk} (h : Sorted id t) (hwf : ∀ x ∈ t, WfE kTake x) (ht : 1 ≤ tg ∧ tg ≤ 4) (hw : 0 ≤ w ∧ w < 4) (hne : itemsAt w t ≠ []) : FineS (tg, (w, (itemsAt w t, ()))) := by
  have hr := itemsAt_range w t t.length (Nat.le_refl _)
  rw [List.take_length] at hr
  generalize hI : (List.range t.length).filter (fun i => (at1 t i).2.2.1 == w) = I at hr
  have hmem : ∀ i ∈ I, i < t.length ∧ (at1 t i).2.2.1 = w := fun i hi => by
    rw [← hI] at hi
    simpa using hi
  have hpw : I.Pairwise (· < ·) := by rw [← hI]; exact List.Pairwise.filter _ List.pairwise_lt_range
  have hget := List.pairwise_iff_getElem.1 hpw
  have hlen : I.length ≤ 3 := by
    refine Nat.le_of_not_lt fun hc => ?_
    have a1 := hget 0 1 (by omega) (by omega) (by omega)
    have a2 := hget 1 2 (by omega) (by omega) (by omega)
    have a3 := hget 2 3 (by omega) (by omega) (by omega)
    have m0 := hmem I[0] (List.getElem_mem _)
    have m3 := hmem I[3] (List.getElem_mem _)
    have h0 := h.apart (I[3] - 3) (by omega)
    rw [show I[3] - 3 + 3 = I[3] by omega] at h0
    apply h0
    by_cases e : I[0] = I[3] - 3
    · rw [← e, m0.2, m3.2]
    · have r1 := h.rise I[0] (I[3] - 3) (by omega) (by omega)
      have r2 := h.rise (I[3] - 3) I[3] (by omega) m3.1
      rw [m0.2] at r1; rw [m3.2] at r2 ⊢
      omega
  rw [hr] at hne ⊢
  have hpos : 1 ≤ I.length := by
    cases I with
    | nil => exact absurd rfl hne
    | cons _ _ => simp
  refine fine_mk (by omega) hw (by omega) (by simp; omega) (fun y hy => ?_) (fun i hi => ?_)
  · obtain ⟨i, hi, e⟩ := List.mem_map.1 hy
    subst e
    have m := hmem i hi
    have hb := h.base i m.1
    have hw2 := wfT hwf m.1
    refine ⟨⟨wf_mk8 hb.2.1.1 (by show (at1 t i).2.1 < 256; omega), wf_mk64 (by show -9223372036854775808 ≤ (at1 t i).2.2.2.1; omega) (by show (at1 t i).2.2.2.1 < _; omega), trivial⟩, hb.2.1.2, hb.2.2.2⟩
  · have hi' : i + 1 < I.length := by simpa using hi
    have e0 : at0 (I.map fun i => lineOf (at1 t i)) i = lineOf (at1 t I[i]) := by
      unfold at0; rw [List.getD_eq_getElem?_getD, List.getElem?_map, List.getElem?_eq_getElem (by omega)]; rfl
    have e1 : at0 (I.map fun i => lineOf (at1 t i)) (i + 1) = lineOf (at1 t I[i + 1]) := by
      unfold at0; rw [List.getD_eq_getElem?_getD, List.getElem?_map, List.getElem?_eq_getElem hi']; rfl
    rw [e0, e1]
    have m0 := hmem I[i] (List.getElem_mem _)
    have m1 := hmem I[i + 1] (List.getElem_mem _)
    have r := h.rise I[i] I[i + 1] (hget i (i + 1) (by omega) hi' (by omega)) m1.1
    show (at1 t I[i]).2.1 < (at1 t I[i + 1]).2.1
    rw [m0.2, m1.2] at r
    omega

theorem sumOf_true {l : List Int} (h : (sumOf l).2.1 = true) : (sumOf l).1 = total l ∧ total l < 9223372036854775808 := by
  unfold sumOf at h ⊢
  by_cases q : fitsI (total l) = true
  · rw [if_pos q]
    unfold fitsI at q
    simp only [Bool.and_eq_true, decide_eq_true_eq] at q
    exact ⟨rfl, q.2⟩
  · rw [if_neg q] at h; cases h
theorem total_pos : ∀ {l : List Int}, (∀ x ∈ l, 1 ≤ x) → (l.length : Int) ≤ total l
  | [], _ => by simp [total]
  | x :: l, h => by
    have := h x List.mem_cons_self
    have := total_pos fun y hy => h y (List.mem_cons_of_mem _ hy)
    simp only [total, List.length_cons]; omega

theorem fills_at {p : Prg} (h : fillsB p = true) : (∀ x ∈ p.2.2.2.2.1, x.2.1 = p.2.2.2.2.2.2.1 ∧ 1 ≤ x.2.2.2.1) ∧ sumQ p.2.2.2.2.1 = total (p.2.2.2.2.1.map qtyOf) ∧ total (p.2.2.2.2.1.map qtyOf) < 9223372036854775808 ∧ (p.2.2.2.2.1.length : Int) ≤ sumQ p.2.2.2.2.1 := by
  unfold fillsB at h
  simp only [Bool.and_eq_true, decide_eq_true_eq] at h
  obtain ⟨h1, _, h2, _⟩ := h
  have hq : ∀ x ∈ p.2.2.2.2.1, x.2.1 = p.2.2.2.2.2.2.1 ∧ 1 ≤ x.2.2.2.1 := fun x hx => by
    obtain ⟨i, hi, e⟩ := List.getElem_of_mem hx
    have := allFrom_at h1 hi
    have ea : at1 p.2.2.2.2.1 i = x := by unfold at1; rw [List.getD_eq_getElem?_getD, List.getElem?_eq_getElem hi, e]; rfl
    unfold fillR at this
    rw [ea] at this
    simp only [Bool.and_eq_true, Bool.not_eq_true', decide_eq_false_iff_not, bne_eq_false_iff_eq] at this
    exact ⟨this.2.2.1, by omega⟩
  obtain ⟨a, b⟩ := sumOf_true h2
  refine ⟨hq, a, b, ?_⟩
  have := total_pos (l := p.2.2.2.2.1.map qtyOf) fun x hx => by
    obtain ⟨y, hy, e⟩ := List.mem_map.1 hx
    subst e; exact (hq y hy).2
  rw [List.length_map] at this
  unfold sumQ; rw [a]; exact this

theorem grp1_mem {tg w : Int} {a : List Ln} {s : Stp} (h : s ∈ grp1 tg w a) : a ≠ [] ∧ s = (tg, (w, (a, ()))) := by
  cases a with
  | nil => cases h
  | cons x l => exact ⟨by simp, List.mem_singleton.1 h⟩

theorem owes_fine {p : Prg} (hf : Few p) (h : linesB 4 p.2.2.2.2.2.1 = true) : ∀ s ∈ owS p, FineS s := by
  intro s hs
  unfold owS at hs
  have hl := linesB_lt h
  have hw := hf.w3
  unfold linesB at h
  simp only [Bool.and_eq_true, decide_eq_true_eq] at h
  obtain ⟨h1, h2⟩ := h
  generalize p.2.2.2.2.2.1 = o at *
  cases o with
  | nil => cases hs
  | cons a l =>
    rw [List.mem_singleton.1 hs]
    refine fine_mk (by cases p.1 == 2 <;> simp) (by omega) (fun _ => rfl) ⟨by simp, by omega⟩ (fun y hy => ⟨hw y hy, (hl y hy).1, (hl y hy).2⟩) fun i hi => ?_
    have := allFrom_at h1 hi
    unfold lineR at this
    simp only [Bool.and_eq_true, Bool.or_eq_true, Bool.not_eq_true', decide_eq_false_iff_not, Nat.add_sub_cancel] at this
    rcases this.2.2 with q | q
    · cases q
    · omega

theorem stepsP_fine {p : Prg} (hf : Few p) (h : goodP 4 4 p = true) : ∀ s ∈ stepsP p, FineS s := by
  have hq := wf_i64 hf.wf.2.2.2.2.2.2.2.2.2.1
  intro s hs
  unfold stepsP at hs
  rcases good_cases hf h with g | g | g
  · rw [show (p.1 == 6) = false by have := g.kind; simp; omega, show (p.1 == 5) = false by have := g.kind; simp; omega] at hs
    simp only [cond_false] at hs
    rcases List.mem_append.1 hs with q | q
    · unfold grps at q
      simp only [List.mem_append] at q
      have ht : 1 ≤ p.1 ∧ p.1 ≤ 4 := by have := g.kind; omega
      rcases q with q | q | q | q <;> obtain ⟨hne, e⟩ := grp1_mem q <;> rw [e] <;> exact group_fine g.sorted hf.w2 ht (by omega) hne
    · exact owes_fine hf g.owes s q
  · rw [show (p.1 == 6) = false by have := g.kind; simp; omega, show (p.1 == 5) = true by have := g.kind; simp [this]] at hs
    simp only [cond_false, cond_true] at hs
    obtain ⟨f1, f2, f3, f4⟩ := fills_at g.fills
    rcases List.mem_cons.1 hs with e | e
    · rw [e]; exact fine_one (by omega) g.ware (by omega) g.sku ⟨g.qty, hq.2⟩
    · unfold fillS at e
      cases ht : p.2.2.2.2.1 with
      | nil => rw [ht] at e; cases e
      | cons a l =>
        rw [ht] at e
        rw [ht] at f4
        rw [ht] at f2 f3
        have f4 : 1 ≤ sumQ (a :: l) := by simp at f4; omega
        rcases List.mem_cons.1 e with e | e
        · rw [e]; exact fine_one (by omega) g.ware (by omega) g.sku ⟨f4, by omega⟩
        · rw [List.mem_singleton.1 e]; exact fine_one (by omega) (by omega) (fun _ => rfl) g.sku ⟨f4, by omega⟩
  · rw [show (p.1 == 6) = true by have := g.kind; simp [this]] at hs
    simp only [cond_true] at hs
    rcases List.mem_cons.1 hs with e | e
    · rw [e]; exact fine_one (by omega) g.src (by omega) g.sku ⟨g.qty, hq.2⟩
    · rw [List.mem_singleton.1 e]; exact fine_one (by omega) g.ware (by omega) g.sku ⟨g.qty, hq.2⟩

theorem owS_len (p : Prg) : (owS p).length ≤ 1 := by unfold owS; split <;> simp
theorem grps_len (tg : Int) (t : List Tk) : (grps tg t).length ≤ 4 := by
  unfold grps
  have a := grp1_len tg 0 (itemsAt 0 t); have b := grp1_len tg 1 (itemsAt 1 t); have c := grp1_len tg 2 (itemsAt 2 t); have d := grp1_len tg 3 (itemsAt 3 t)
  simp only [List.length_append]; omega
theorem stepsP_len {p : Prg} (hf : Few p) (h : goodP 4 4 p = true) : 1 ≤ (stepsP p).length ∧ (stepsP p).length ≤ 5 := by
  unfold stepsP
  rcases good_cases hf h with g | g | g
  · rw [show (p.1 == 6) = false by have := g.kind; simp; omega, show (p.1 == 5) = false by have := g.kind; simp; omega]
    simp only [cond_false]
    have a := owS_len p; have b := grps_len p.1 p.2.2.2.2.1
    rw [List.length_append]
    refine ⟨?_, by omega⟩
    rcases g.some with q | q
    · cases ht : p.2.2.2.2.1 with
      | nil => exact absurd ht q
      | cons x l =>
        have hx : x ∈ p.2.2.2.2.1 := by rw [ht]; simp
        have hb : 0 ≤ x.2.2.1 ∧ x.2.2.1 < 4 := by
          have := (g.sorted.base 0 (by rw [ht]; simp)).2.2.1
          have e : at1 p.2.2.2.2.1 0 = x := by rw [ht]; rfl
          rw [e] at this; exact this
        have hne := fun w (e : x.2.2.1 = w) => itemsAt_ne hx e
        rw [← ht]
        unfold grps
        simp only [List.length_append]
        rcases four hb with e | e | e | e
        · rw [grp1_ne (hne 0 e)]; simp; omega
        · rw [grp1_ne (hne 1 e)]; simp; omega
        · rw [grp1_ne (hne 2 e)]; simp; omega
        · rw [grp1_ne (hne 3 e)]; simp; omega
    · have : (owS p).length = 1 := by
        unfold owS
        split
        · rename_i e; exact absurd e q
        · rfl
      omega
  · rw [show (p.1 == 6) = false by have := g.kind; simp; omega, show (p.1 == 5) = true by have := g.kind; simp [this]]
    simp only [cond_false, cond_true, List.length_cons]
    unfold fillS
    split <;> simp
  · rw [show (p.1 == 6) = true by have := g.kind; simp [this]]
    simp
end Go.Proofs.Pure
