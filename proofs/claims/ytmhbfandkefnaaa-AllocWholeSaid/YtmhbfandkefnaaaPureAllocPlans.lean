/- The law AllocPlans; a plan is a good program. -/
import Derived.Test.YtmhbfandkefnaaaPlanVal
import Derived.Test.YtmhbfandkefnaaaRefGood
set_option linter.unusedVariables false
namespace Go.Proofs.Pure
open Go.Proofs.D Go.Proofs.F

theorem lines_change {s s' : Int} {l : List Ln} (h : linesB s l = true) (hs : ∀ x ∈ l, x.1 < s') : linesB s' l = true := by
  unfold linesB at h ⊢
  simp only [Bool.and_eq_true] at h ⊢
  refine ⟨allFrom_iff.2 fun i h1 h2 => ?_, h.2⟩
  have := (allFrom_iff.1 h.1) i h1 h2
  have hx := hs _ (get_mem (at_get (by omega : i < l.length)))
  unfold lineR at this ⊢
  rw [dec_f (by omega : ¬ (at0 l i).1 ≥ s')]
  simp only [Bool.and_eq_true] at this ⊢
  exact ⟨rfl, this.2⟩

theorem takes_good {id s w : Int} {l : List Tk} (hok : okFrom id (-1) l) (hw : ∀ x ∈ l, WfE kTake x) (hs : ∀ x ∈ l, x.2.1 < s ∧ x.2.2.1 < w ∧ x.2.1 ≤ 2) (hl : l.length ≤ 12) : takesB s w id l = true := by
  have hO := takes_of_ok hok
  unfold takesO at hO
  have hv : ∀ i, i < l.length → Valid id (at1 l i) := fun i hi => (hok.mem _ (get_mem (at1_get hi))).1
  have hlt : ∀ i, i + 1 < l.length → key (at1 l i) < key (at1 l (i + 1)) := fun i hi => by
    have h1 := (allFrom_iff.1 hO) (i + 1) (by omega) (by omega)
    unfold takeQ at h1
    simp only [Bool.and_eq_true, Bool.or_eq_true] at h1
    rcases h1.2 with q | q
    · cases q
    · rw [Nat.add_sub_cancel, key_lt (hv i (by omega)) (hv (i + 1) hi), decide_eq_true_eq] at q; exact q
  unfold takesB
  simp only [Bool.and_eq_true, decide_eq_true_eq]
  refine ⟨allFrom_iff.2 fun i h1 h2 => ?_, by omega⟩
  have hi : i < l.length := by omega
  have hx := hs _ (get_mem (at1_get hi))
  have hq := (allFrom_iff.1 hO) i h1 h2
  have hvi := hv i hi
  unfold takeR takeQ at *
  simp only [Bool.and_eq_true] at hq ⊢
  refine ⟨⟨?_, hq.2⟩, ?_⟩
  · unfold tkBase
    have := hvi.qty
    rw [show (!((at1 l i).1 != id)) = true by simp [bne, hvi.id], dec_f (by omega : ¬ (at1 l i).2.1 ≥ s), dec_f (by omega : ¬ (at1 l i).2.2.1 ≥ w), dec_f (by omega : ¬ (at1 l i).2.2.2.1 < 1)]; rfl
  · by_cases h3 : i ≤ 2
    · rw [Nat.ble_eq_true_of_le h3]; rfl
    · obtain ⟨j, rfl⟩ : ∃ j, i = j + 3 := ⟨i - 3, by omega⟩
      have a := hlt j (by omega); have b := hlt (j + 1) (by omega); have c := hlt (j + 1 + 1) (by omega)
      have v0 := hv j (by omega)
      have s0 := v0.sku
      rw [show j + 3 - 3 = j by omega]
      have hne : ¬ (at1 l j).2.2.1 = (at1 l (j + 3)).2.2.1 := fun e => by
        have e1 : j + 1 + 1 + 1 = j + 3 := rfl
        rw [e1] at c
        unfold key at a b c
        omega
      rw [show ((at1 l j).2.2.1 == (at1 l (j + 3)).2.2.1) = false by rw [beq_eq_false_iff_ne]; exact hne]
      simp

theorem wf_mk_u8 {n : Int} (h1 : 0 ≤ n) (h2 : n < 256) : (Lit.int .u8 n).wf = true := by
  simp only [Lit.wf, Bool.and_eq_true, decide_eq_true_eq, show IntKind.u8.min = 0 by decide, show IntKind.u8.max = 255 by decide]
  omega

/-- What is known of a plan. -/
structure PlanIn (c : Cg) (free : Grid) (r : Req) : Prop where
  prio : Prio c
  wfr : WfE kRequest r
  wff : WfE (.arr 4 (.arr 4 (.int .i64))) free
  ok : planB c r = true

theorem PlanIn.parts {c : Cg} {free : Grid} {r : Req} (h : PlanIn c free r) : r.1 = 1 ∧ r.2.1 ≠ 0 ∧ r.2.2.1 ≤ 1 ∧ linesB c.1 r.2.2.2.1 = true ∧ r.2.2.2.1.length ≥ 1 := by
  have := h.ok
  unfold planB at this
  simp only [Bool.and_eq_true, beq_iff_eq, Bool.not_eq_true', beq_eq_false_iff_ne, decide_eq_false_iff_not, decide_eq_true_eq] at this
  obtain ⟨a, b, c, d, e⟩ := this
  exact ⟨a, b, by omega, d, by omega⟩

theorem free_rows {free : Grid} (hf : WfE (.arr 4 (.arr 4 (.int .i64))) free) : free.length = 4 ∧ (∀ k : Nat, k < 4 → (rowG free k).length = 4) ∧ ∀ k w : Nat, k < 4 → w < 4 → cellG free k w < 9223372036854775808 := by
  obtain ⟨h1, h2⟩ := hf
  have h1 : free.length = 4 := h1
  have hr : ∀ k : Nat, k < 4 → (rowG free k) ∈ free := fun k hk => get_mem (row_at h1 hk)
  have hl : ∀ k : Nat, k < 4 → (rowG free k).length = 4 := fun k hk => (h2 _ (hr k hk)).1
  refine ⟨h1, hl, fun k w hk hw => ?_⟩
  have hm : cellG free k w ∈ rowG free k := by
    have := hl k hk
    unfold cellG
    rw [List.getD_eq_getElem?_getD, List.getElem?_eq_getElem (by omega)]
    exact List.getElem_mem _
  exact (wf_i64 ((h2 _ (hr k hk)).2 _ hm)).2

theorem PlanIn.lines {c : Cg} {free : Grid} {r : Req} (h : PlanIn c free r) : LinesIn c free r.2.2.2.1 ∧ lnFrom (-1) r.2.2.2.1 ∧ linesB 4 r.2.2.2.1 = true ∧ ∀ x ∈ r.2.2.2.1, WfE kLine x := by
  obtain ⟨_, _, _, hl, _⟩ := h.parts
  have hw : ∀ x ∈ r.2.2.2.1, WfE kLine x := h.wfr.2.2.2.1.2
  have hlt := linesB_lt hl
  have hsk : 1 ≤ c.1 ∧ c.1 ≤ 3 := by rcases h.prio.skus with e | e | e <;> omega
  have h4 := lines_change hl fun x hx => (show x.1 < 4 by have := (hlt x hx).1; omega)
  obtain ⟨f1, f2, f3⟩ := free_rows h.wff
  obtain ⟨a, b⟩ := ln_of hw h4
  exact ⟨⟨fun x hx => ⟨(wf_u8 (hw x hx).1).1, (hlt x hx).1⟩, fun x hx => ⟨(hlt x hx).2, (wf_i64 (hw x hx).2.1).2⟩, f1, f2, b⟩, a, h4, hw⟩

structure Planned (c : Cg) (free : Grid) (r : Req) (g : Grid) (o : List Ln) : Prop where
  grid : GridOk c free g
  owes : lnFrom (-1) o
  few : o.length ≤ 3
  skus : ∀ x ∈ o, 0 ≤ x.1 ∧ x.1 < c.1
  wf : ∀ x ∈ o, WfE kLine x
  all : ∀ k : Nat, k < 4 → total (rowG g k) + L k o = firstOf k r.2.2.2.1
  whole : r.2.2.1 = 1 → o = []

theorem lnFrom_mem : ∀ {l : List Ln} {lo : Int}, lnFrom lo l → ∀ y ∈ l, lo < y.1 ∧ 1 ≤ y.2.1
  | [], _, _, y, hy => by cases hy
  | z :: l, lo, h, y, hy => by
    rcases List.mem_cons.1 hy with e | hy
    · subst e; exact ⟨h.1, h.2.2.1⟩
    · obtain ⟨a, b⟩ := lnFrom_mem h.2.2.2 y hy; have := h.1; exact ⟨by omega, b⟩

theorem planned_of {c : Cg} {free : Grid} {r : Req} (h : PlanIn c free r) {g : Grid} {o : List Ln} (hp : plan1 c free r.2.2.1 r.2.2.2.1 (zeroG, []) = some (g, o)) : Planned c free r g o := by
  obtain ⟨hL, hln, _, hw⟩ := h.lines
  have hsk : 1 ≤ c.1 ∧ c.1 ≤ 3 := by rcases h.prio.skus with e | e | e <;> omega
  obtain ⟨a1, a2, o1, a3, a4, a5, a6, a7, a8⟩ := plan1_props h.prio hL.rows r.2.2.2.1 (-1) zeroG [] g o (by omega) hln (fun x hx => (hL.skus x hx).2) (zero_ok c free) (fun k hk _ => by rw [zero_row k hk]; rfl) hp
  rw [List.nil_append] at a3
  subst a3
  refine ⟨a1, a4, by have := hL.few; omega, fun x hx => ⟨by have := (lnFrom_mem a4 x hx).1; omega, (a6 x hx).1⟩, fun x hx => ?_, fun k hk => ?_, a8⟩
  · have b := lnFrom_mem a4 x hx
    obtain ⟨c1, y, c2, c3⟩ := a6 x hx
    have := (hL.qty y c2).2
    exact ⟨wf_mk_u8 (by omega) (by omega), wf_mk_i64 (by omega) (by omega), trivial⟩
  · have := a7 k hk
    rw [zero_row k hk, L_first hln] at this
    have e : total (List.replicate 4 (0 : Int)) = 0 := rfl
    omega

theorem max0_lt {n : Int} (h : n < 9223372036854775808) : max0 n < 9223372036854775808 := by unfold max0; split <;> omega

theorem elem_wf {id : Int} (hid : (Lit.int .u32 id).wf = true) {g : Grid} {n : Nat} (hn : n < 16) (h1 : 0 ≤ cellG g (n % 4) (n / 4)) (h2 : cellG g (n % 4) (n / 4) < 9223372036854775808) : WfE kTake (elemAt id g n) :=
  ⟨hid, wf_mk_u8 (n := ((n % 4 : Nat) : Int)) (by omega) (by omega), wf_mk_u8 (n := ((n / 4 : Nat) : Int)) (by omega) (by omega), wf_mk_i64 (n := cellG g (n % 4) (n / 4)) (by omega) h2, trivial⟩

/-- The takes of a plan. -/
theorem plan_takes {c : Cg} {free : Grid} {r : Req} (h : PlanIn c free r) {g : Grid} {o : List Ln} (P : Planned c free r g o) :
    okFrom r.2.1 (-1) (takesFrom r.2.1 g 0 16) ∧ (takesFrom r.2.1 g 0 16).length ≤ 12 ∧ (∀ x ∈ takesFrom r.2.1 g 0 16, WfE kTake x) ∧ (∀ x ∈ takesFrom r.2.1 g 0 16, x.2.1 < c.1 ∧ x.2.2.1 < c.2.1 ∧ x.2.1 ≤ 2) ∧
    (∀ x ∈ takesFrom r.2.1 g 0 16, ∃ k w : Nat, k < 4 ∧ w < 4 ∧ x.2.1 = (k : Int) ∧ x.2.2.1 = (w : Int) ∧ x.2.2.2.1 ≤ cellG free k w) ∧ ∀ k : Nat, k < 4 → T k (takesFrom r.2.1 g 0 16) = total (rowG g k) := by
  obtain ⟨f1, f2, f3⟩ := free_rows h.wff
  have hsk : 1 ≤ c.1 ∧ c.1 ≤ 3 := by rcases h.prio.skus with e | e | e <;> omega
  have hb : ∀ k w : Nat, k < 4 → w < 4 → cellG g k w < 9223372036854775808 := fun k w hk hw => by
    have := (P.grid.pos k w hk hw).2; have := max0_lt (f3 k w hk hw); omega
  refine ⟨takesFrom_ok P.grid hb _ 16 0 (by omega) (-1) (by omega), takes_len h.prio P.grid _, fun x hx => ?_, fun x hx => ?_, fun x hx => ?_, fun k hk => ?_⟩
  · obtain ⟨n, _, h2, e, _⟩ := takesFrom_mem 16 0 x hx
    subst e
    exact elem_wf h.wfr.2.1 (by omega) (P.grid.pos _ _ (by omega) (by omega)).1 (hb _ _ (by omega) (by omega))
  · obtain ⟨n, _, h2, e, h3⟩ := takesFrom_mem 16 0 x hx
    subst e
    have hs : ¬ c.1 ≤ ((n % 4 : Nat) : Int) := fun q => by rw [P.grid.skus _ _ (by omega) (by omega) q] at h3; omega
    have hw : ¬ c.2.1 ≤ ((n / 4 : Nat) : Int) := fun q => by rw [P.grid.wares _ _ (by omega) (by omega) q] at h3; omega
    show ((n % 4 : Nat) : Int) < c.1 ∧ ((n / 4 : Nat) : Int) < c.2.1 ∧ ((n % 4 : Nat) : Int) ≤ 2
    omega
  · obtain ⟨n, _, h2, e, h3⟩ := takesFrom_mem 16 0 x hx
    subst e
    have := (P.grid.pos (n % 4) (n / 4) (by omega) (by omega)).2
    refine ⟨n % 4, n / 4, by omega, by omega, rfl, rfl, ?_⟩
    show cellG g (n % 4) (n / 4) ≤ _
    unfold max0 at this
    split at this <;> omega
  · rw [takesFrom_T P.grid _ k 16 0 (by omega), sumAt_row g k hk (P.grid.row k hk)]

theorem plan_few {c : Cg} {free : Grid} {r : Req} (h : PlanIn c free r) {g : Grid} {o : List Ln} (P : Planned c free r g o) : Few (planned r o g) := by
  obtain ⟨t1, t2, t3, _⟩ := plan_takes h P
  obtain ⟨hL, _, _, hw⟩ := h.lines
  have l1 := hL.few; have l2 := P.few
  refine ⟨⟨by show (Lit.int .u8 1).wf = true; decide, h.wfr.2.1, h.wfr.2.2.1, h.wfr.2.2.2.1, ⟨by show List.length (takesFrom _ _ _ _) ≤ 9223372036854775807; omega, t3⟩, ⟨by show List.length o ≤ 9223372036854775807; omega, P.wf⟩, wf_mk_u8 (by show (0 : Int) ≤ 0; omega) (by show (0 : Int) < 256; omega), wf_mk_u8 (by show (0 : Int) ≤ 0; omega) (by show (0 : Int) < 256; omega), wf_mk_u8 (by show (0 : Int) ≤ 0; omega) (by show (0 : Int) < 256; omega), wf_mk_i64 (by show -9223372036854775808 ≤ (0 : Int); omega) (by show (0 : Int) < 9223372036854775808; omega), trivial⟩,
    by show r.2.2.2.1.length ≤ 100; omega, by show (takesFrom _ _ _ _).length ≤ 100; omega, by show o.length ≤ 100; omega⟩

theorem plan_covered {c : Cg} {free : Grid} {r : Req} (h : PlanIn c free r) {g : Grid} {o : List Ln} (P : Planned c free r g o) : coveredB (takesFrom r.2.1 g 0 16) o r.2.2.2.1 = true := by
  obtain ⟨t1, t2, t3, t4, t5, t6⟩ := plan_takes h P
  obtain ⟨hL, hln, h4, hw⟩ := h.lines
  have one : ∀ k : Nat, k < 4 → coverK (namedOf k (takesFrom r.2.1 g 0 16) o) ((wantOf r.2.2.2.1).getD k 0) = true := fun k hk => by
    have e1 := P.all k hk
    rw [← t6 k hk, first_want h4 hw k hk] at e1
    have e2 : 0 ≤ (wantOf r.2.2.2.1).getD k 0 ∧ (wantOf r.2.2.2.1).getD k 0 < 9223372036854775808 := by
      rw [← first_want h4 hw k hk]
      refine ⟨first_nonneg hln, ?_⟩
      by_cases q : ∃ x ∈ r.2.2.2.1, x.1 = (k : Int)
      · obtain ⟨x, hx, e⟩ := q
        rw [first_mem hln x hx e]; exact (hL.qty x hx).2
      · rw [first_zero q]; omega
    unfold coverK
    rw [sumOf_fit (by rw [named_total, e1]; omega) (by rw [named_total, e1]; exact e2.2), named_total, e1]
    simp
  unfold coveredB coverP partsOf
  have o0 := one 0 (by omega); have o1 := one 1 (by omega); have o2 := one 2 (by omega); have o3 := one 3 (by omega)
  simp only [Int.natCast_zero, Int.natCast_one] at o0 o1
  rw [show ((2 : Nat) : Int) = 2 from rfl] at o2
  rw [show ((3 : Nat) : Int) = 3 from rfl] at o3
  rw [o0, o1, o2, o3]; rfl

/-- A plan is a good program. -/
theorem plan_good {c : Cg} {free : Grid} {r : Req} (h : PlanIn c free r) {g : Grid} {o : List Ln} (P : Planned c free r g o) {s w : Int} (hs : c.1 ≤ s ∧ s ≤ 4) (hw : c.2.1 ≤ w ∧ w ≤ 4) : goodP s w (planned r o g) = true := by
  obtain ⟨t1, t2, t3, t4, t5, t6⟩ := plan_takes h P
  obtain ⟨hL, hln, h4, hwl⟩ := h.lines
  obtain ⟨p1, p2, p3, p4, p5⟩ := h.parts
  have hsk : 1 ≤ c.1 ∧ c.1 ≤ 3 := by rcases h.prio.skus with e | e | e <;> omega
  have hwk : 1 ≤ c.2.1 ∧ c.2.1 ≤ 3 := by rcases h.prio.wares with e | e | e <;> omega
  have hpol := wf_u8 h.wfr.2.2.1
  unfold goodP fineB goodKind planned
  simp only []
  rw [dec_f (by omega : ¬ s < 1), dec_f (by omega : ¬ s > 4), dec_f (by omega : ¬ w < 1), dec_f (by omega : ¬ w > 4)]
  simp only [show ((1 : Int) == 1) = true by decide, cond_true, Bool.not_false, Bool.true_and]
  have hO : orderedB (1, (r.2.1, (r.2.2.1, (r.2.2.2.1, (takesFrom r.2.1 g 0 16, (o, (0, (0, (0, (0, ())))))))))) = true := by
    unfold orderedB stillB
    simp only [show ((0 : Int) == 0) = true by decide, Bool.and_true]
    rw [bne_iff_ne]; exact p2
  rw [hO, dec_t (by omega : r.2.2.1 ≤ 1), dec_t (by omega : (r.2.2.2.1.length : Int) > 0), lines_change p4 (fun x hx => by have := (hL.skus x hx).2; omega), takes_good t1 t3 (fun x hx => by have := t4 x hx; omega) t2,
    lines_change (lines_of_ln P.owes P.few) (fun x hx => by have := (P.skus x hx).2; omega), plan_covered h P]
  simp only [Bool.true_and]
  by_cases q : r.2.2.1 = 0
  · rw [show (r.2.2.1 == 0) = true by rw [beq_iff_eq]; exact q]; rfl
  · rw [P.whole (by omega)]; simp

theorem req_lines {r : Req} (h : WfE kRequest r) : ∀ x ∈ r.2.2.2.1, WfE kLine x := h.2.2.2.1.2

theorem plan_val {c : Cg} {free : Grid} {r : Req} (hc : Prio c) (hs : ∀ (sku qty : Int) (free : List Int), 0 ≤ sku ∧ sku < 256 → -9223372036854775808 ≤ qty ∧ qty < 9223372036854775808 → free.length = 4 → alloc_Split c sku qty free = some (splitOf c sku qty free))
    (hr : WfE kRequest r) (hf : WfE (.arr 4 (.arr 4 (.int .i64))) free) (hl : r.2.2.2.1.length ≤ 20) : alloc_Plan c r free = some (planO c r free) := by
  have hsk : 1 ≤ c.1 ∧ c.1 ≤ 3 := by rcases hc.skus with e | e | e <;> omega
  have hwk : 1 ≤ c.2.1 ∧ c.2.1 ≤ 3 := by rcases hc.wares with e | e | e <;> omega
  unfold alloc_Plan planO
  rw [fineL_val c.1 r.2.2.2.1 (by omega) (by omega) (req_lines hr)]
  cases hB : planB c r with
  | false =>
    unfold planB at hB
    revert hB
    rw [show (r.1 != 1) = !(r.1 == 1) from rfl]
    cases (r.1 == 1) <;> cases (r.2.1 == 0) <;> cases decide (r.2.2.1 > 1) <;> cases linesB c.1 r.2.2.2.1 <;> cases decide ((r.2.2.2.1.length : Int) ≥ 1) <;> intro hB <;> first | rfl | cases hB
  | true =>
    have hI : PlanIn c free r := ⟨hc, hr, hf, hB⟩
    obtain ⟨p1, p2, p3, p4, p5⟩ := hI.parts
    obtain ⟨hL, _⟩ := hI.lines
    rw [show (r.1 != 1) = false by simp [bne, p1], show (r.2.1 == 0) = false by rw [beq_eq_false_iff_ne]; exact p2, dec_f (by omega : ¬ r.2.2.1 > 1), p4, dec_t (by omega : (r.2.2.2.1.length : Int) ≥ 1)]
    simp only [cond_false, Option.bind_some, Bool.and_self, Bool.not_true]
    unfold slices_Clone_api_Line_api_Line
    rw [room_ok (by omega), Option.bind_some]
    have run := plan_l1 hc hs r free hL
    unfold Z zeroG at run
    rw [run]
    cases hp : plan1 c free r.2.2.1 r.2.2.2.1 (List.replicate 4 (List.replicate 4 0), []) with
    | none =>
      have hp' : plan1 c free r.2.2.1 r.2.2.2.1 (zeroG, []) = none := hp
      rw [hp']; rfl
    | some a =>
      have hp' : plan1 c free r.2.2.1 r.2.2.2.1 (zeroG, []) = some a := hp
      rw [hp']
      have P := planned_of hI hp'
      have l2 := plan_l2 r (1, (r.2.1, (r.2.2.1, ((), ((), ((), (0, (0, (0, (0, ())))))))))) a.1 r.2.2.2.1 a.2 P.grid.len P.grid.row
      unfold Z at l2
      simp only [Option.bind_some]
      rw [l2]
      simp only [Option.bind_some]
      have hG := progGood_val 4 4 (planned r a.2 a.1) (plan_few hI P)
      rw [plan_good hI P (by omega) (by omega)] at hG
      unfold planned at hG ⊢
      rw [hG]
      rfl

theorem refPlan_val {c : Cg} {free : Grid} {r : Req} (hc : Prio c) (hr : WfE kRequest r) (hf : WfE (.arr 4 (.arr 4 (.int .i64))) free) (hl : r.2.2.2.1.length ≤ 20) : pledgeref33_Plan c r free = some (planO c r free) := by
  have hsk : 1 ≤ c.1 ∧ c.1 ≤ 3 := by rcases hc.skus with e | e | e <;> omega
  unfold pledgeref33_Plan planO
  rw [refLines_val c.1 r.2.2.2.1 (by omega) (req_lines hr)]
  cases hB : planB c r with
  | false =>
    unfold planB at hB
    revert hB
    rw [show (r.1 != 1) = !(r.1 == 1) from rfl]
    have e0 : decide ((r.2.2.2.1.length : Int) ≥ 1) = !((r.2.2.2.1.length : Int) == 0) := by
      by_cases q : r.2.2.2.1.length = 0
      · rw [dec_f (by omega), show ((r.2.2.2.1.length : Int) == 0) = true by rw [beq_iff_eq]; omega]; rfl
      · rw [dec_t (by omega), show ((r.2.2.2.1.length : Int) == 0) = false by rw [beq_eq_false_iff_ne]; omega]; rfl
    rw [e0]
    cases (r.1 == 1) <;> cases (r.2.1 == 0) <;> cases decide (r.2.2.1 > 1) <;> cases linesB c.1 r.2.2.2.1 <;> cases ((r.2.2.2.1.length : Int) == 0) <;> intro hB <;> first | rfl | cases hB
  | true =>
    have hI : PlanIn c free r := ⟨hc, hr, hf, hB⟩
    obtain ⟨p1, p2, p3, p4, p5⟩ := hI.parts
    obtain ⟨hL, _⟩ := hI.lines
    rw [show (r.1 != 1) = false by simp [bne, p1], show (r.2.1 == 0) = false by rw [beq_eq_false_iff_ne]; exact p2, dec_f (by omega : ¬ r.2.2.1 > 1), p4, show ((r.2.2.2.1.length : Int) == 0) = false by rw [beq_eq_false_iff_ne]; omega]
    simp only [cond_false, Option.bind_some, Bool.not_true]
    have run := refplan_l1 hc r free hL
    unfold Z zeroG at run
    rw [run]
    cases hp : plan1 c free r.2.2.1 r.2.2.2.1 (List.replicate 4 (List.replicate 4 0), []) with
    | none =>
      have hp' : plan1 c free r.2.2.1 r.2.2.2.1 (zeroG, []) = none := hp
      rw [hp']; rfl
    | some a =>
      have hp' : plan1 c free r.2.2.1 r.2.2.2.1 (zeroG, []) = some a := hp
      rw [hp']
      have P := planned_of hI hp'
      have l2 := refplan_l2 r (1, (r.2.1, (r.2.2.1, (r.2.2.2.1, ((), ((), (0, (0, (0, (0, ())))))))))) a.1 a.2 P.grid.len P.grid.row
      unfold Z at l2
      simp only [Option.bind_some]
      rw [l2]
      rfl

theorem planO_few {c : Cg} {free : Grid} {r : Req} (hc : Prio c) (hr : WfE kRequest r) (hf : WfE (.arr 4 (.arr 4 (.int .i64))) free) : (planO c r free).1.2.2.2.1.length ≤ 100 ∧ (planO c r free).1.2.2.2.2.1.length ≤ 100 ∧ (planO c r free).1.2.2.2.2.2.1.length ≤ 100 := by
  unfold planO
  cases hB : planB c r with
  | false => exact ⟨Nat.zero_le _, Nat.zero_le _, Nat.zero_le _⟩
  | true =>
    simp only [Bool.not_true, cond_false]
    cases hp : plan1 c free r.2.2.1 r.2.2.2.1 (zeroG, []) with
    | none => exact ⟨Nat.zero_le _, Nat.zero_le _, Nat.zero_le _⟩
    | some a =>
      have hI : PlanIn c free r := ⟨hc, hr, hf, hB⟩
      have F := plan_few hI (planned_of hI hp)
      exact ⟨F.lines, F.takes, F.owes⟩

theorem AllocPlans (x0 : Sm) (x1 : Req) (x2 : Grid) (hx0 : WfE kSmall x0) (hx1 : WfE kRequest x1) (hx2 : WfE (.arr 4 (.arr 4 (.int .i64))) x2) : pledgelaw33_AllocPlans x0 x1 x2 = some true := by
  unfold pledgelaw33_AllocPlans
  by_cases hl : (x1.2.2.2.1.length : Int) > 20
  · rw [dec_t hl, works33]; rfl
  rw [dec_f hl]
  obtain ⟨c, k1, k2, k3⟩ := config_split x0 hx0
  obtain ⟨f1, f2, f3⟩ := planO_few k2 hx1 hx2
  simp only [cond_false]
  rw [k1, Option.bind_some, plan_val k2 k3 hx1 hx2 (by omega), refPlan_val k2 hx1 hx2 (by omega), works33]
  simp only [Option.bind_some]
  rw [refSameP_val _ _ (by omega) (by omega) (by omega), sameP_refl]
  simp
end Go.Proofs.Pure
