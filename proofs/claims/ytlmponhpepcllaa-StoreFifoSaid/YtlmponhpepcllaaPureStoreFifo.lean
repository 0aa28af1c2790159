/- The law StoreFifo. -/
import Derived.Test.YtlmponhpepcllaaStoFifo
set_option linter.unusedVariables false
namespace Go.Proofs.Pure
open Go.Proofs.D Go.Proofs.F

def restock (sku ware qty : Int) (ts : List Tk) : Prg := (5, (0, (0, ([], (ts, ([], (sku, (0, (ware, (qty, ()))))))))))
theorem find_owed (s : Sto) (h : FewS s) (id sku : Int) : order_Owed (findS s id).1 sku = some (owedOf s id sku) := by
  have hl : (findS s id).1.2.2.2.2.2.1.length < 1000000 := by
    unfold findS
    cases hk : atS s.1 id with
    | none => exact (show ord0.2.2.2.2.2.1.length < 1000000 from by decide)
    | some k => have := (h.few _ (List.mem_of_getElem? (getD_at (at_lt hk)))).owes; show (s.1.getD k ord0).2.2.2.2.2.1.length < 1000000; omega
  exact owed_val _ _ hl
theorem total_len : ∀ {l : List Int}, (∀ x ∈ l, 1 ≤ x) → 0 ≤ total l
  | [], _ => by simp [total]
  | x :: l, h => by
    have := h x List.mem_cons_self
    have := total_len fun y hy => h y (List.mem_cons_of_mem _ hy)
    show 0 ≤ x + total l; omega
def cntB (b : Sto) (sku : Int) (c : Int) (t : Tk) : Int := c + (if owedOf b t.1 sku = 0 then 1 else 0)
theorem cnt_fold (b : Sto) (sku : Int) : ∀ (ts : List Tk) (c : Int), ts.foldl (cntB b sku) c = c + ((ts.filter fun t => owedOf b t.1 sku == 0).length : Int)
  | [], c => by show c = c + 0; omega
  | t :: ts, c => by
    show ts.foldl (cntB b sku) (cntB b sku c t) = _
    rw [cnt_fold b sku ts]
    unfold cntB
    by_cases z : owedOf b t.1 sku = 0
    · rw [if_pos z, List.filter_cons_of_pos (by simp [z])]; simp; omega
    · rw [if_neg z, List.filter_cons_of_neg (by simp [z])]; omega

theorem StoreFifo (x0 : List Prg) (x1 : Int × Int × Int × List Int × Unit) (hx0 : WfE (.slice kProgram) x0) (hx1 : WfE kCome x1) : pledgelaw24_StoreFifo x0 x1 = some true := by
  have hl : x0.length ≤ 9223372036854775807 := by have := hx0.1; have h2 : List.length x0 ≤ maxLen := this; unfold maxLen at h2; omega
  obtain ⟨sku, ware, qty, busy, _⟩ := x1
  have w1 := wf_u8 hx1.1
  have w2 := wf_u8 hx1.2.1
  have w3 := wf_i64 hx1.2.2.1
  have w1 : 0 ≤ sku ∧ sku < 256 := w1
  have w2 : 0 ≤ ware ∧ ware < 256 := w2
  have w3 : -9223372036854775808 ≤ qty ∧ qty < 9223372036854775808 := w3
  unfold pledgelaw24_StoreFifo
  obtain ⟨b, e, hb⟩ := fewL_val x0 hx0 hl
  cases b with
  | false => rw [e, works24]; rfl
  | true =>
  have hf := hb rfl
  rw [e, works24]
  simp only [Option.bind_some, Bool.not_true, cond_false]
  by_cases c1 : sku ≥ 4
  · rw [dec_t c1]; rfl
  rw [dec_f c1]
  by_cases c2 : ware ≥ 4
  · rw [dec_t c2]; rfl
  rw [dec_f c2]
  by_cases c3 : qty < 1
  · rw [dec_t c3]; rfl
  rw [dec_f c3]
  by_cases c4 : (busy.length : Int) > 40
  · rw [dec_t c4]; rfl
  rw [dec_f c4]
  simp only [cond_false]
  have hg := play_good hf
  rw [play_val x0 hl hf, Option.bind_some]
  generalize playS x0 = s at *
  rw [fills_val2 s sku ware qty busy hg.fs (by omega), Option.bind_some]
  -- what is told to fill
  obtain ⟨ts, t1, t2⟩ := fills_serve hg sku ware busy (ofW s.2.1 sku) 0 qty [] (fun _ h => h) (by omega) w3.2
  have hts : fillsS s sku ware qty busy = ts := by
    unfold fillsS fillsW
    rw [goodSt_to hg, cond_true, t1, List.nil_append]
  have htl := fillsS_len s sku ware qty busy
  rw [hts] at htl ⊢
  have hpos : ∀ id ∈ ofW s.2.1 sku, ∃ k, atS s.1 id = some k ∧ 1 ≤ owedOf s id sku ∧ owedOf s id sku < 9223372036854775808 := fun id hid => by
    obtain ⟨k, hk, p1, p2⟩ := owed_pos hg hid
    exact ⟨k, hk, by rw [owedOf_at hk]; exact p1, by rw [owedOf_at hk]; exact p2⟩
  obtain ⟨a1, a2, a3⟩ := t2.all fun id hid => (hpos id hid).choose_spec.2.1
  have a3 := a3 (by omega)
  have hwasn := of_nodup hg.nd sku
  have hmem : ∀ t ∈ ts, t.1 ∈ ofW s.2.1 sku ∧ t.2.1 = sku ∧ t.2.2.1 = ware ∧ 1 ≤ t.2.2.2.1 ∧ t.2.2.2.1 ≤ owedOf s t.1 sku := fun t ht => by
    obtain ⟨i, hi, et⟩ := List.getElem_of_mem ht
    obtain ⟨q1, q2⟩ := a2 i t (by rw [← et]; exact List.getElem?_eq_getElem hi)
    exact ⟨get_mem q1, q2⟩
  have hidw : ∀ id ∈ ofW s.2.1 sku, WfE (.int .u32) id ∧ id ≠ 0 := fun id hid => by
    obtain ⟨k, hk, _⟩ := hpos id hid
    have hm := List.mem_of_getElem? (getD_at (at_lt hk))
    have hfo := hg.fo _ hm
    have := hfo.wf.1
    have hG := good_of hfo (good_at hg.p1 _ hm)
    rw [at_id hk] at this
    have hne := hG.id
    rw [at_id hk] at hne
    exact ⟨this, hne⟩
  have htw : ∀ t ∈ ts, WfE kTake t := fun t ht => by
    obtain ⟨m1, m2, m3, m4, m5⟩ := hmem t ht
    obtain ⟨_, _, _, m6⟩ := hpos t.1 m1
    refine ⟨(hidw t.1 m1).1, ?_, ?_, ?_, trivial⟩
    · rw [m2]; exact hx1.1
    · rw [m3]; exact hx1.2.1
    · exact wf_mk_i64 (by omega) (by omega)
  have hp : Few (restock sku ware qty ts) := by
    refine ⟨⟨(show (Lit.int .u8 5).wf = true from by decide), (show (Lit.int .u32 0).wf = true from by decide), (show (Lit.int .u8 0).wf = true from by decide), wf_nilL, ⟨?_, htw⟩, wf_nilL, hx1.1, (show (Lit.int .u8 0).wf = true from by decide), hx1.2.1, hx1.2.2.1, trivial⟩, Nat.zero_le _, by show ts.length ≤ 100; omega, Nat.zero_le _⟩
    show ts.length ≤ maxLen
    unfold maxLen; omega
  have hq : goodP 4 4 (restock sku ware qty ts) = true := by
    have hfin : fineB 4 4 = true := by decide
    have hmv : movedB 4 4 (restock sku ware qty ts) = true := by
      show (((0 : Int) == 0) && (bareB (restock sku ware qty ts) && ((((([] : List Ln).length : Nat) : Int) == 0) && (decide (sku < 4) && (decide (ware < 4) && decide (qty ≥ 1)))))) = true
      rw [dec_t (show sku < 4 by omega), dec_t (show ware < 4 by omega), dec_t (show qty ≥ 1 by omega)]; rfl
    have hfl : fillsB (restock sku ware qty ts) = true := by
      have hsum : sumOf (ts.map qtyOf) = (total (ts.map qtyOf), (true, ())) := by
        have := total_len (l := ts.map qtyOf) fun x hx => by
          obtain ⟨t, ht, et⟩ := List.mem_map.1 hx
          rw [← et]; exact (hmem t ht).2.2.2.1
        exact sumOf_fit (by omega) (by omega)
      show (allFrom (fillR (restock sku ware qty ts) ts) 0 ts.length && (decide ((ts.length : Int) ≤ 12) && ((sumOf (ts.map qtyOf)).2.1 && decide ((sumOf (ts.map qtyOf)).1 ≤ qty)))) = true
      rw [hsum, dec_t (show (ts.length : Int) ≤ 12 by omega), dec_t (show total (ts.map qtyOf) ≤ qty from a3)]
      simp only [Bool.and_true]
      refine allFrom_iff.2 fun i _ hi => ?_
      have hi : i < ts.length := by omega
      have hgi := at1_get hi
      obtain ⟨m1, m2, m3, m4, m5⟩ := hmem _ (get_mem hgi)
      unfold fillR
      simp only [Bool.and_eq_true, Bool.not_eq_true']
      refine ⟨allFrom_iff.2 fun j _ hj => ?_, ?_, ?_, ?_, ?_⟩
      · have hj : j < i := by omega
        have hgj := at1_get (show j < ts.length by omega)
        have q1 := (a2 j _ hgj).1
        have q2 := (a2 i _ hgi).1
        rw [Bool.not_eq_true', beq_eq_false_iff_ne]
        intro ee
        rw [ee] at q1
        have hji := (List.getElem?_inj (get_lt q1) hwasn).1 (q1.trans q2.symm)
        omega
      · rw [beq_eq_false_iff_ne]; exact (hidw _ m1).2
      · rw [m2]; exact bne_self_eq_false sku
      · rw [m3]; exact bne_self_eq_false ware
      · rw [decide_eq_false_iff_not]; omega
    unfold goodP goodKind
    rw [hfin]
    show (true && (movedB 4 4 (restock sku ware qty ts) && (((0 : Int) == 0) && fillsB (restock sku ware qty ts)))) = true
    rw [hmv, hfl]; rfl
  obtain ⟨b, w, f1, f2⟩ := fill_serve sku ware ⟨w1.1, by omega⟩ ⟨w2.1, by omega⟩ ts.length ts 0 qty s hg w3.2 htw (Nat.zero_add _) t2
  have hap : applyS s (restock sku ware qty ts) = (b, 0) := by
    unfold applyS
    rw [goodSt_to hg, hq]
    simp only [Bool.not_true, cond_false]
    show (match fillAll s ts with | .inl b => (b, 0) | .inr e => (s, e)) = _
    have : fillAll s ts = .inl b := f1
    rw [this]
  have hav := apply_val3 s (restock sku ware qty ts) hg.fs hp
  rw [hap] at hav
  have hfs := hg.fs; have hbs := f2.good.fs
  have hws := hfs.waits; have hwb := hbs.waits
  have hav : store_Apply s (5, (0, (0, ([], (ts, ([], (sku, (0, (ware, (qty, ())))))))))) = some (b, (0, ())) := hav
  rw [hav, Option.bind_some, of_val _ _ (by omega), Option.bind_some]
  simp only []
  rw [of_val _ _ (by omega), Option.bind_some]
  have hwl := ofW_len s.2.1 sku
  simp only [bne_self_eq_false, cond_false]
  rw [dec_f (show ¬ (ts.length : Int) > ((ofW s.2.1 sku).length : Int) by omega)]
  simp only [cond_false]
  have hwhole := f2.whole
  have hmost := f2.most
  have hnow := f2.now
  have hloop := loop_walk (step := pledgelaw24_StoreFifo.l1) ts (fun i (c : Int) => (((), ((), (ts, ((), (ofW s.2.1 sku, (ofW b.2.1 sku, (c, (i : Int)))))))), ((sku, (ware, (qty, (busy, ())))), (s, (b, ()))))) (X := (List Tk × List Int × List Int × Int) ⊕ Bool) (fun _ t c => .inl (cntB b sku c t)) (fun c => .inl (ts, (ofW s.2.1 sku, (ofW b.2.1 sku, c)))) (fun i c => 0 ≤ c ∧ c ≤ i) 0 (by omega) (by omega) (fun i t c hx hc => by
    have hi := get_lt hx
    obtain ⟨m1, m2, m3, m4, m5⟩ := hmem t (get_mem hx)
    obtain ⟨k, hk, m6, m7⟩ := hpos t.1 m1
    have hwas := (a2 i t hx).1
    have hfnd : (findS b t.1).2 = true := by rw [f2.fnd]; unfold findS; rw [hk]
    have heach := f2.each t (get_mem hx)
    constructor
    · unfold pledgelaw24_StoreFifo.l1
      simp only [dec_t (show (i : Int) < (ts.length : Int) by omega), cond_true]
      rw [nthK_get hx, find_val s t.1 hfs, Option.bind_some, nthK_get hx, find_val b t.1 hbs, Option.bind_some]
      simp only [hfnd, Bool.not_true, cond_false]
      rw [nthK_get hx, nthK_get hwas]
      simp only [bne_self_eq_false, cond_false]
      rw [find_owed b hbs, Option.bind_some, find_owed s hfs, Option.bind_some, nthK_get hx, wrap_i64 (by omega) (by omega), heach]
      simp only [bne_self_eq_false, cond_false, Option.bind_some]
      rw [← heach]
      unfold cntB
      by_cases z : owedOf b t.1 sku = 0
      · rw [if_pos z, show (owedOf b t.1 sku == 0) = true by simp [z], succ_i64 (by omega), wrap_i64 (by omega) (by omega)]; rfl
      · rw [if_neg z, show (owedOf b t.1 sku == 0) = false by simp [z], succ_i64 (by omega), Int.add_zero]; rfl
    · intro c' hc'
      cases hc'
      unfold cntB
      split <;> omega) (fun c _ => by
    unfold pledgelaw24_StoreFifo.l1
    simp only [dec_f (show ¬ (ts.length : Int) < (ts.length : Int) by omega), cond_false])
  rw [show (((0 : Nat) : Int)) = 0 from rfl, walk_foldW (cntB b sku), cnt_fold, ← hwhole, Int.zero_add] at hloop
  rw [hloop, Option.bind_some]
  simp only []
  rw [wrap_i64 (by omega) (by omega), dec_f (show ¬ (w : Int) < (ts.length : Int) - 1 by omega)]
  simp only [cond_false]
  have hnl : (ofW b.2.1 sku).length = (ofW s.2.1 sku).length - w := by rw [hnow, List.length_drop]
  rw [wrap_i64 (by omega) (by omega), show ((((ofW b.2.1 sku).length : Int) : Int) != ((ofW s.2.1 sku).length : Int) - (w : Int)) = false by rw [bne_eq_false_iff_eq]; omega]
  simp only [cond_false]
  have hl2 := loop_all (step := pledgelaw24_StoreFifo.l2) (fun i => (ofW s.2.1 sku, (ofW b.2.1 sku, ((w : Int), (i : Int))))) (fun _ => true) (.inl ()) (.inr false) (ofW b.2.1 sku).length (by omega) (fun i hi => by
    have hx : (ofW b.2.1 sku)[i]? = some (ofW b.2.1 sku)[i] := List.getElem?_eq_getElem hi
    have hy : (ofW s.2.1 sku)[w + i]? = some (ofW b.2.1 sku)[i] := by rw [← hx, hnow, List.getElem?_drop]
    unfold pledgelaw24_StoreFifo.l2
    simp only [dec_t (show (i : Int) < ((ofW b.2.1 sku).length : Int) by omega), cond_true]
    rw [nthK_get hx, wrap_i64 (by omega) (by omega), show (i : Int) + (w : Int) = ((w + i : Nat) : Int) by omega, nthK_get hy]
    simp only [bne_self_eq_false, cond_false]
    rw [succ_i64 (by omega)]) (by
    unfold pledgelaw24_StoreFifo.l2
    simp only [dec_f (show ¬ ((ofW b.2.1 sku).length : Int) < ((ofW b.2.1 sku).length : Int) by omega), cond_false])
  rw [show (((0 : Nat) : Int)) = 0 from rfl, show allFrom (fun _ => true) 0 (ofW b.2.1 sku).length = true from allFrom_iff.2 fun _ _ _ => rfl] at hl2
  rw [hl2]; rfl
end Go.Proofs.Pure
