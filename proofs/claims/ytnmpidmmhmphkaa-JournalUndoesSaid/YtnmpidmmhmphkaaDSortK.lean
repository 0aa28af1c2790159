/- slices.SortFunc of a row of one's own (the library's whole contract, told in D's words); a pure callee's contract by D, as the sort wants it. -/
import Derived.Test.YtnmpidmmhmphkaaDAppSeq
import Derived.Shelf.SlSortCmp.NoneTotal
set_option linter.unusedVariables false
set_option linter.unusedSimpArgs false
namespace Go.Proofs.D
open Go.RowKit Go.Sort Go.Shelf

def plainK : K → Bool | .int _ => true | .bool => true | .str => true | .unit => true | .cons a b => plainK a && plainK b | _ => false
def encK : (c : K) → El c → List Value
  | .int k, x => [.int k x] | .bool, x => [.bool x] | .str, x => [.string x] | .cons a b, x => encK a x.1 ++ encK b x.2 | _, _ => []

section
variable {w w' : World} {S S' : Cells}
theorem rep_enc : ∀ {c : K} {x : El c}, plainK c = true → Rep w S c x (encK c x)
  | .int _, _, _ => rfl | .bool, _, _ => rfl | .str, _, _ => rfl | .unit, _, _ => rfl
  | .cons a b, x, h => by
    simp only [plainK, Bool.and_eq_true] at h
    exact ⟨_, _, rfl, rep_enc h.1, rep_enc h.2⟩
  | .hdr, _, h => by cases h
  | .ref _, _, h => by cases h
  | .slice _, _, h => by cases h
  | .arr _ _, _, h => by cases h
theorem plain_flat : ∀ {c : K}, plainK c = true → c.flat = true
  | .int _, _ => rfl | .bool, _ => rfl | .str, _ => rfl | .unit, _ => rfl
  | .cons a b, h => by
    simp only [plainK, Bool.and_eq_true] at h
    simp only [K.flat, plain_flat h.1, plain_flat h.2, Bool.and_self]
  | .hdr, h => by cases h
  | .ref _, h => by cases h
  | .slice _, h => by cases h
  | .arr _ _, h => by cases h
theorem enc_len {c : K} {x : El c} (h : plainK c = true) : (encK c x).length = c.size := Rep.length (w := default) (S := fun _ _ => False) (rep_enc h)
theorem enc_one {c : K} {x : El c} (h : plainK c = true) : ∀ v ∈ encK c x, v.oneCell' = true := Rep.one (w := default) (S := fun _ _ => False) (rep_enc h)

instance (c : K) : Inhabited (El c) := ⟨zeroE c⟩

/-- Where nothing is owned, the world has but grown, and been drawn from. -/
theorem grown_of_ext {m m' : Nat → Option MB} {O' : Cells} (h : Ext (fun _ _ => False) w S m w' S' m' O') : ∃ q os', w' = grow (w.drewN q) os' := by
  refine ⟨w'.drawn - w.drawn, w'.heap.extract w.heap.size w'.heap.size, ?_⟩
  have h1 : w'.heap = w.heap ++ w'.heap.extract w.heap.size w'.heap.size := by
    apply Array.ext'
    apply List.ext_getElem?
    intro i
    rw [Array.toList_append, List.getElem?_append]
    by_cases hi : i < w.heap.size
    · rw [if_pos (by simpa using hi)]
      have := h.block i hi fun _ q => q
      simpa using this
    · rw [if_neg (by simpa using hi)]
      have hs := h.size
      simp only [Array.toList_extract, Array.length_toList, List.extract_eq_take_drop]
      rw [List.getElem?_take, List.getElem?_drop]
      split
      · congr 1; omega
      · rw [Array.getElem?_toList, Array.getElem?_eq_none]; omega
  obtain ⟨hp, tp, dr, os, out⟩ := w'
  have e1 := h.os
  have e2 := h.tape.1
  have e3 := h.tape.2
  have e4 := h.output
  simp only at e1 e2 e3 e4 h1 ⊢
  subst e1; subst e2; subst e4
  unfold grow World.drewN
  simp only [World.mk.injEq, true_and, and_true]
  exact ⟨h1, by omega⟩
end

section
variable {P : Program} {ρ : Ren} {kk : K} {w w' : World} {S S' : Cells} {m m' : Nat → Option MB}

theorem holds_row {b o : Nat} {ks : List (El kk)} (hp : plainK kk = true) (h1 : ∀ (i : Nat) (x : El kk), ks[i]? = some x → w.rangeAt b (o + i * kk.size) (encK kk x)) (h2 : ∀ t, t < ks.length * kk.size → w.frozen? ⟨b, o + t, none⟩ = false) : HoldsK (encK kk) kk.size w b o ks.toArray := by
  intro t ht
  simp only [size_flatK, List.size_toArray] at ht
  have hk : 0 < kk.size := by
    rcases Nat.eq_zero_or_pos kk.size with e | e
    · rw [e] at ht; omega
    · exact e
  refine ⟨?_, h2 t ht⟩
  have hi : t / kk.size < ks.length := (Nat.div_lt_iff_lt_mul hk).2 ht
  have hx : ks[t / kk.size]? = some (ks[t / kk.size]) := List.getElem?_eq_getElem hi
  have hj : t % kk.size < (encK kk (ks[t / kk.size])).length := by rw [enc_len hp]; exact Nat.mod_lt _ hk
  have hc := h1 _ _ hx (t % kk.size) _ (List.getElem?_eq_getElem hj)
  have ht2 : o + t / kk.size * kk.size + t % kk.size = o + t := by rw [Nat.add_assoc, Nat.mul_comm, Nat.div_add_mod]
  rw [ht2] at hc
  rw [hc]
  congr 1
  rw [get_flatK _ _ _ _ (by simpa using ht)]
  show _ = ((encK kk (ks.toArray[t / kk.size]!))[t % kk.size]!)
  rw [getElem!_pos ks.toArray (t / kk.size) (by simpa using hi)]
  simp only [List.getElem_toArray]
  exact (getElem!_pos (encK kk ks[t / kk.size]) (t % kk.size) hj).symm

theorem row_holds {b o : Nat} {ks : List (El kk)} (hp : plainK kk = true) (h : HoldsK (encK kk) kk.size w b o ks.toArray) {i : Nat} {x : El kk} (hx : ks[i]? = some x) : w.rangeAt b (o + i * kk.size) (encK kk x) := by
  intro j v hj
  have hjl : j < kk.size := by have := (List.getElem?_eq_some_iff.1 hj).1; rwa [enc_len hp] at this
  have hil := (List.getElem?_eq_some_iff.1 hx).1
  have ht : i * kk.size + j < ks.length * kk.size := by
    have : (i + 1) * kk.size ≤ ks.length * kk.size := Nat.mul_le_mul_right _ hil
    rw [Nat.add_mul, Nat.one_mul] at this
    omega
  have := (h (i * kk.size + j) (by simpa using ht)).1
  rw [Nat.add_assoc, this]
  congr 1
  rw [show (id (flatK (encK kk) kk.size ks.toArray)[i * kk.size + j]!) = (flatK (encK kk) kk.size ks.toArray)[i * kk.size + j]! from rfl, get_flatK _ _ _ _ (by simpa using ht)]
  have hd : (i * kk.size + j) / kk.size = i := by
    rw [Nat.add_comm, Nat.mul_comm, Nat.add_mul_div_left _ _ (by omega), Nat.div_eq_of_lt hjl, Nat.zero_add]
  have hm : (i * kk.size + j) % kk.size = j := by
    rw [Nat.add_comm, Nat.mul_comm, Nat.add_mul_mod_self_left, Nat.mod_eq_of_lt hjl]
  rw [hd, hm, getElem!_pos ks.toArray i (by simpa using hil)]
  simp only [List.getElem_toArray]
  rw [(List.getElem?_eq_some_iff.1 hx).2]
  exact (getElem!_pos (encK kk x) j (List.getElem?_eq_some_iff.1 hj).1).trans (List.getElem?_eq_some_iff.1 hj).2

/-- What the sort is of, and by what. -/
theorem sort_row (L : SlLaysF0.n6 P ρ) (aE : ∀ w, (isAgg (ρ.t 24)).run P w = .ok true w) (zE : ∀ w, (Go.sizeOf (ρ.t 24)).run P w = .ok kk.size w) (hp : plainK kk = true) (hpos0 : 0 < kk.size) (cf : El kk → El kk → Int) (hO : SWO (ltOf cf)) (hT : ∀ x y, ltOf cf x y = false → ltOf cf y x = false → x = y) {g : Nat}
    (eg : ∀ args w, (callFunc g args).run P w = .ok (.enter g args) w) (hcmp : ∀ (W : World) (x y : El kk), Calls P g #[.agg (encK kk x).toArray, .agg (encK kk y).toArray] W fun e w' => e = .returned (.int .i64 (cf x y)) ∧ ∃ q os', w' = grow (W.drewN q) os')
    {ks : List (El kk)} {v : Value} (hl : ks.length < 4611686018427387904) (hr : StoRel (mkS [] [(1, .row kk false ks)] []).sto w S m) (hv : RepV w S m (.row 1) v) :
    Calls P (ρ.f 6) #[v, .func (.func g) #[] #[]] w fun e w' => e = .returned (.tuple #[]) ∧ ∃ S', RepV w' S' (fun _ => none) (.val (.slice kk) (ks.mergeSort fun x y => !(ltOf cf) y x)) v ∧
      Ext (OwnSt (mkS [] [(1, .row kk false ks)] []).sto m) w S m w' S' m (fun _ _ => False) ∧ ∀ b x, S' b x → b < w'.heap.size := by
  obtain ⟨u, hu, ev, -⟩ := repV_row (i := 1) hv
  subst ev
  obtain ⟨u', hu', A, cap, h0, h1, h2, h3, h4, h5, h6⟩ := hr.sto 1 (.row kk false ks) rfl
  rw [hu] at hu'; cases hu'
  rw [h0]
  have hlen : (ks.mergeSort fun x y => !(ltOf cf) y x).length = ks.length := List.length_mergeSort _
  by_cases hk : ks = []
  · subst hk
    refine (AnyF.slices_SortFunc_none L A cap (.func (.func g) #[] #[]) w).mono ?_
    rintro e w' ⟨rfl, rfl⟩
    refine ⟨rfl, S, .inr ⟨[_], ⟨A, cap, rfl, by simp, fun i x hx => by simp at hx⟩, by simp [Shut, T.isAgg, K.isAgg]⟩, (Ext.refl (fun _ _ => False) _ S m) |> fun e => ⟨e.os, e.tape, e.output, e.size, e.maps, e.more, fun b x q => .inl q, fun b x q => q.elim, fun b x hb _ => e.cell b x hb fun q => q, fun b hb _ => e.block b hb fun _ q => q⟩, hr.live⟩
  · have hpos : 0 < ks.length := List.length_pos_iff.2 hk
    have hA : A = some ⟨u.b, u.o, none⟩ := by
      cases A with
      | none => have := h3 rfl; omega
      | some a => rw [h4 a rfl (by omega)]
    subst hA
    have hown : ∀ x, u.o ≤ x → x < u.o + cap * kk.size → Own u (.row kk false ks) u.b x := fun x a b => ⟨ks.length, cap, _, h0, rfl, a, b, fun q => by cases q⟩
    have hcap : ks.length * kk.size ≤ cap * kk.size := Nat.mul_le_mul_right _ h1
    have hkz : 0 < kk.size ∨ kk.size = 0 := by omega
    have hcell : ∀ (i : Nat) (x : El kk), ks[i]? = some x → w.rangeAt u.b (u.o + i * kk.size) (encK kk x) := fun i x hx => by
      obtain ⟨cs, c1, c2, c3, -⟩ := h5 i x hx
      have : cs = encK kk x := Rep.det (plain_flat hp) c3 (rep_enc hp)
      rw [← this]; exact c2
    have hH : HoldsK (encK kk) kk.size w u.b u.o ks.toArray := holds_row hp hcell fun t ht => (h6 _ (hown _ (by omega) (by omega))).2
    have hO1 : ∀ b x, OwnSt (mkS [] [(1, Obj.row kk false ks)] []).sto m b x ↔ b = u.b ∧ u.o ≤ x ∧ x < u.o + cap * kk.size := fun b x => by
      constructor
      · rintro ⟨i, o, v, g1, g2, g3⟩
        have := stoL_mem (show stoL _ i = some o from g1)
        simp only [List.mem_cons, List.not_mem_nil, or_false, Prod.mk.injEq] at this
        obtain ⟨e1, e2⟩ := this
        subst e1; subst e2
        rw [hu] at g2; cases g2
        obtain ⟨n', cap', a', q1, q2, q3, q4, -⟩ := g3
        rw [h0] at q1; cases q1
        exact ⟨q2, q3, q4⟩
      · rintro ⟨e, a, b'⟩
        subst e
        exact ⟨1, _, u, rfl, hu, hown x a b'⟩
    have hblk : u.b < w.heap.size := by
      have := (hH 0 (by simp only [size_flatK, List.size_toArray]; exact Nat.mul_pos hpos hpos0)).1
      exact cell_lt this
    have hcon := AnyQ.slices_SortFunc_total L kk.size aE zE (encK kk) (fun x => enc_len hp) (fun x => enc_one hp) cf hO g #[] u.b u.o cap ks.toArray w eg (fun mm os dk _ x y => hcmp _ x y) hH hblk (by simpa using hl) hT
    simp only [List.size_toArray] at hcon
    refine hcon.mono ?_
    rintro e w' ⟨rfl, nn, os, rfl⟩
    have hsz : (ks.mergeSort fun x y => !(ltOf cf) y x).toArray.size = ks.toArray.size := by simp [hlen]
    have hH2 := holdsK_sortWorldK_c (encK kk) kk.size w u.b u.o ks.toArray (ks.mergeSort fun x y => !(ltOf cf) y x).toArray nn os hH hblk hsz
    obtain ⟨W2, hW2⟩ : ∃ W2, W2 = sortWorldK (encK kk) kk.size w u.b u.o nn (ks.mergeSort fun x y => !(ltOf cf) y x).toArray os := ⟨_, rfl⟩
    have hsize : w.heap.size ≤ W2.heap.size := by rw [hW2]; exact size_sortWorldK_c (encK kk) kk.size w u.b u.o nn _ os
    have hcells : ∀ b x, b < w.heap.size → ¬ (b = u.b ∧ u.o ≤ x ∧ x < u.o + cap * kk.size) → W2.cell? ⟨b, x, none⟩ = w.cell? ⟨b, x, none⟩ ∧ W2.frozen? ⟨b, x, none⟩ = w.frozen? ⟨b, x, none⟩ := fun b x hb hx => by
      rw [hW2]
      unfold sortWorldK putRowK
      rw [cell?_grow _ _ _ (by rw [Go.Sort.size_putRow]; exact hb), frozen?_grow _ _ _ (by rw [Go.Sort.size_putRow]; exact hb), cell?_putRow_other _ _ _ _ _ _ (by
        simp only [size_flatK, List.size_toArray, hlen]
        by_cases e : b = u.b
        · refine .inr ?_
          show x < u.o ∨ u.o + ks.length * kk.size ≤ x
          have : ¬ (u.o ≤ x ∧ x < u.o + cap * kk.size) := fun q => hx ⟨e, q⟩
          omega
        · exact .inl e), frozen?_putRow]
      exact ⟨rfl, rfl⟩
    have hblock : ∀ b, b < w.heap.size → b ≠ u.b → W2.heap[b]? = w.heap[b]? := fun b hb hne => by
      rw [hW2]
      unfold sortWorldK putRowK
      rw [heap_grow_old _ _ (by rw [Go.Sort.size_putRow]; exact hb)]
      show (mapBlock _ _ _).heap[b]? = _
      unfold mapBlock
      simp only [Array.getElem?_modify]
      rw [if_neg (fun e => hne e.symm)]; rfl
    rw [← hW2] at hH2 ⊢
    let S' : Cells := fun b x => S b x ∨ (b = u.b ∧ u.o ≤ x ∧ x < u.o + ks.length * kk.size)
    refine ⟨rfl, S', .inr ⟨[_], ⟨some ⟨u.b, u.o, none⟩, cap, by rw [hlen], by rw [hlen]; exact h1, fun i x hx => ?_⟩, by simp [Shut, T.isAgg, K.isAgg]⟩, ⟨?_, ⟨?_, ?_⟩, ?_, hsize, fun _ _ q => q, fun b x q => .inl q, fun b x q => ?_, fun b x q => q.elim, fun b x hb hx => ?_, fun b hb hx => ?_⟩, fun b x q => ?_⟩
    · refine ⟨u.b, u.o, encK kk x, rfl, enc_len hp, ⟨row_holds hp hH2 hx, fun j hj => .inr ⟨rfl, by omega, ?_⟩⟩, rep_enc hp⟩
      have hil := (List.getElem?_eq_some_iff.1 hx).1
      rw [hlen] at hil
      rw [enc_len hp] at hj
      have : (i + 1) * kk.size ≤ ks.length * kk.size := Nat.mul_le_mul_right _ hil
      rw [Nat.add_mul, Nat.one_mul] at this
      omega
    · rw [hW2]; rfl
    · rw [hW2]; rfl
    · rw [hW2]; show w.drawn ≤ w.drawn + nn; omega
    · rw [hW2]; rfl
    · rcases q with q | ⟨e, a, b'⟩
      · exact .inl q
      · exact .inr (.inl ((hO1 b x).2 ⟨e, a, by omega⟩))
    · exact hcells b x hb fun q => hx ((hO1 b x).2 q)
    · refine hblock b hb fun e => hx u.o ((hO1 b u.o).2 ⟨e, Nat.le_refl _, ?_⟩)
      have : 0 < cap * kk.size := Nat.mul_pos (by omega) hpos0
      omega
    · rcases q with q | ⟨e, _, _⟩
      · exact Nat.lt_of_lt_of_le (hr.live b x q) hsize
      · rw [e]; exact Nat.lt_of_lt_of_le hblk hsize
end
end Go.Proofs.D
