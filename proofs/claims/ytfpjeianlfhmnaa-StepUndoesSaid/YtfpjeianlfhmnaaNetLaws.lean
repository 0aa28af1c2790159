/- What comes to nothing; what does not hang on the order. -/
import Derived.Test.YtfpjeianlfhmnaaOpBase
set_option linter.unusedVariables false
namespace Go.Proofs.Pure
open Go.Proofs.D Go.Proofs.F

theorem negI_val {d : Int} (h1 : -9223372036854775808 < d) (h2 : d < 9223372036854775808) : negI d = -d := by
  unfold negI; rw [wrap_i64 (by omega) (by omega)]; omega
theorem negOk_iff {l : List OpE} : negOk l = true ↔ ∀ x ∈ l, x.2.1 ≠ -9223372036854775808 := by
  unfold negOk
  rw [List.all_eq_true]
  exact ⟨fun h x hx => by simpa using h x hx, fun h x hx => by simpa using h x hx⟩
theorem S_neg : ∀ (l : List OpE) (k : KE), (∀ x ∈ l, -9223372036854775808 < x.2.1 ∧ x.2.1 < 9223372036854775808) → S (l.map negE) k = - S l k
  | [], k, _ => rfl
  | x :: l, k, h => by
    rw [List.map_cons, S_cons, S_cons, S_neg l k fun y hy => h y (List.mem_cons_of_mem _ hy)]
    have := h x List.mem_cons_self
    show (if x.1 = k then negI x.2.1 else 0) + _ = _
    rw [negI_val this.1 this.2]
    split <;> omega
theorem S_reverse : ∀ (l : List OpE) (k : KE), S l.reverse k = S l k
  | [], k => rfl
  | x :: l, k => by
    rw [List.reverse_cons, S_append, S_reverse l k, S_cons, S_cons]
    show S l k + ((if x.1 = k then x.2.1 else 0) + S [] k) = _
    rw [show S [] k = 0 from rfl]; omega
/-- Where each key comes to nothing. -/
theorem net_zero {l : List OpE} (hw : ∀ x ∈ l, -9223372036854775808 ≤ x.2.1 ∧ x.2.1 < 9223372036854775808) (hl : l.length ≤ 1000) (h0 : ∀ k, S l k = 0) : op_Net l = some ([], (true, ())) := by
  obtain ⟨ks, hk, hn⟩ := net_all hw hl
  rw [hn]
  unfold netV
  rw [if_pos (List.all_eq_true.2 fun k _ => by rw [h0 k]; rfl)]
  congr 2
  rw [List.filterMap_eq_nil_iff]
  intro k _
  rw [if_pos (h0 k)]
theorem netV_congr {l l' : List OpE} (h : ∀ k, S l k = S l' k) (ks : List KE) : netV l ks = netV l' ks := by
  unfold netV
  have e : S l = S l' := funext h
  rw [e]
/-- What all additions come to, comes to itself. -/
theorem net_self {l : List OpE} {ks : List KE} (hl : l.length ≤ 1000) (hk : SK l ks) : op_Net (netV l ks).1 = some ((netV l ks).1, (true, ())) := by
  have hks : ks.length ≤ 1000 := by
    have hks : ks = (keysE (gG l [])).mergeSort (leOf cmp3) := SK.unique hk (sort_SK l) fun _ => Iff.rfl
    rw [hks, List.length_mergeSort]
    show ((gG l []).map fun p => p.1).length ≤ 1000
    have := gG_len l []
    simp only [List.length_nil] at this
    rw [List.length_map]; omega
  unfold netV
  by_cases h : ks.all (fun k => fitsI (S l k)) = true
  · rw [if_pos h]
    have hfit : ∀ k ∈ ks, fitsI (S l k) = true := List.all_eq_true.1 h
    obtain ⟨a, ha⟩ : ∃ a, a = ks.filterMap (fun k => if S l k = 0 then none else some (k, (S l k, ()))) := ⟨_, rfl⟩
    show op_Net (ks.filterMap (fun k => if S l k = 0 then none else some (k, (S l k, ())))) = some (ks.filterMap (fun k => if S l k = 0 then none else some (k, (S l k, ()))), (true, ()))
    rw [← ha]
    have hmem : ∀ x, x ∈ a ↔ x.1 ∈ ks ∧ S l x.1 ≠ 0 ∧ x.2.1 = S l x.1 := fun x => by
      rw [ha, List.mem_filterMap]
      constructor
      · rintro ⟨k, hk, e⟩
        by_cases q : S l k = 0
        · rw [if_pos q] at e; cases e
        · rw [if_neg q] at e; cases e; exact ⟨hk, q, rfl⟩
      · rintro ⟨q1, q2, q3⟩
        refine ⟨x.1, q1, ?_⟩
        rw [if_neg q2, ← q3]
    have hka : SK a (ks.filter fun k => decide (S l k ≠ 0)) := by
      refine ⟨hk.sorted.sublist List.filter_sublist, fun k => ?_⟩
      rw [List.mem_filter]
      simp only [decide_eq_true_eq]
      constructor
      · rintro ⟨q1, q2⟩
        exact ⟨(k, (S l k, ())), (hmem _).2 ⟨q1, q2, rfl⟩, rfl⟩
      · rintro ⟨x, hx, e⟩
        obtain ⟨q1, q2, -⟩ := (hmem x).1 hx
        rw [← e]; exact ⟨q1, q2⟩
    have hS : ∀ k ∈ ks, S l k ≠ 0 → S a k = S l k := by
      have : ∀ (ks : List KE), ks.Nodup → ∀ k ∈ ks, S l k ≠ 0 → S (ks.filterMap (fun k => if S l k = 0 then none else some (k, (S l k, ())))) k = S l k := by
        intro ks
        induction ks with
        | nil => intro _ k hk; cases hk
        | cons y ks ih =>
          intro hn k hk hne
          obtain ⟨n1, n2⟩ := List.nodup_cons.1 hn
          have hz : ∀ k, k ∉ ks → S (ks.filterMap (fun k => if S l k = 0 then none else some (k, (S l k, ())))) k = 0 := fun k hk => by
            unfold S
            rw [dl_none]
            · rfl
            · intro x hx
              obtain ⟨z, hz, e⟩ := List.mem_filterMap.1 hx
              split at e
              · cases e
              · cases e; exact fun q => hk (q ▸ hz)
          rcases List.mem_cons.1 hk with e | e
          · subst e
            rw [List.filterMap_cons_some (by rw [if_neg hne]), S_cons, if_pos rfl, hz k n1, Int.add_zero]
          · have hyk : y ≠ k := fun q => n1 (q ▸ e)
            by_cases q : S l y = 0
            · rw [List.filterMap_cons_none (by rw [if_pos q])]; exact ih n2 k e hne
            · rw [List.filterMap_cons_some (by rw [if_neg q]), S_cons, if_neg hyk, Int.zero_add]; exact ih n2 k e hne
      intro k hk' hne
      rw [ha]; exact this ks (sorted_nodup hk.sorted) k hk' hne
    have hfits : ∀ n : Int, fitsI n = true → -9223372036854775808 ≤ n ∧ n < 9223372036854775808 := fun n hn => by
      unfold fitsI at hn
      simpa using hn
    have hal : a.length ≤ 1000 := by
      rw [ha]
      have := List.length_filterMap_le (fun k => if S l k = 0 then none else some (k, (S l k, ()))) ks
      omega
    rw [net_val (fun x hx => by
      obtain ⟨q1, q2, q3⟩ := (hmem x).1 hx
      rw [q3]; exact hfits _ (hfit _ q1)) hal hka]
    unfold netV
    rw [if_pos (List.all_eq_true.2 fun k hk' => by
      obtain ⟨m1, m2⟩ := List.mem_filter.1 hk'
      rw [hS k m1 (by simpa using m2)]; exact hfit k m1)]
    congr 2
    have : ∀ (ks' : List KE), (∀ k ∈ ks', k ∈ ks) → (ks'.filter fun k => decide (S l k ≠ 0)).filterMap (fun k => if S a k = 0 then none else some (k, (S a k, ()))) = ks'.filterMap (fun k => if S l k = 0 then none else some (k, (S l k, ()))) := by
      intro ks'
      induction ks' with
      | nil => intro _; rfl
      | cons y ks' ih =>
        intro hm
        have ih := ih fun k hk => hm k (List.mem_cons_of_mem _ hk)
        by_cases q : S l y = 0
        · rw [List.filter_cons_of_neg (by simpa using q), ih, List.filterMap_cons_none (by rw [if_pos q])]
        · have e := hS y (hm y List.mem_cons_self) q
          rw [List.filter_cons_of_pos (by simpa using q), List.filterMap_cons_some (by rw [if_neg (by rw [e]; exact q)]), List.filterMap_cons_some (by rw [if_neg q]), ih, e]
    rw [this ks fun _ h => h, ha]
  · rw [if_neg h]
    exact net_zero (l := []) (fun x hx => by cases hx) (by simp) fun k => rfl
end Go.Proofs.Pure
