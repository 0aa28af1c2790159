/- Rows that are read as data; literals of structs, arrays, slices. -/
import Derived.Test.YtmmhjcimijfipaaGreatDNew
set_option linter.unusedVariables false
set_option linter.unusedSimpArgs false
namespace Go.Proofs.D
open Go.RowKit

section
variable {P : Program} {C : Ctx} {s : St} {a : Act} {w w' : World} {S S' : Cells} {m m' : Nat → Option MB} {R : Type} {κ : T → Ups → Option R} {r : R} {o : Oper} {σ σ0 : Nat → Option Obj}

theorem upds_append (u v : Ups) (σ : Sto) : upds (u ++ v) σ = upds v (upds u σ) := by
  induction u generalizing σ with
  | nil => rfl
  | cons x r ih => obtain ⟨i, o⟩ := x; simp only [List.cons_append, upds]; exact ih _

/-- The same rows, but for what is shared. -/
def Flag (σ0 σ : Nat → Option Obj) : Prop := ∀ i e sh l, σ0 i = some (.row e sh l) → ∃ sh', σ i = some (.row e sh' l)
theorem Flag.refl (σ : Nat → Option Obj) : Flag σ σ := fun _ _ sh _ h => ⟨sh, h⟩

theorem flat_cells {α : Type} {Q : α → List Value → Prop} {size b o : Nat} {l : List α} (h : ∀ i x, l[i]? = some x → ∃ cs, cs.length = size ∧ w.rangeAt b (o + i * size) cs ∧ Q x cs) :
    ∃ cells, cells.length = l.length * size ∧ w.rangeAt b o cells ∧ RepL Q l cells := by
  have key : ∀ (l : List α) (k : Nat), (∀ i x, l[i]? = some x → ∃ cs, cs.length = size ∧ w.rangeAt b (o + (k + i) * size) cs ∧ Q x cs) →
      ∃ cells, cells.length = l.length * size ∧ w.rangeAt b (o + k * size) cells ∧ RepL Q l cells := by
    intro l
    induction l with
    | nil => intro k _; exact ⟨[], by simp, fun j v hj => by simp at hj, rfl⟩
    | cons x l ih =>
      intro k h
      obtain ⟨c1, h1, h2, h3⟩ := h 0 x rfl
      obtain ⟨c2, h4, h5, h6⟩ := ih (k + 1) fun i y hy => by
        have := h (i + 1) y (by simpa using hy)
        rwa [show k + (i + 1) = k + 1 + i by omega] at this
      refine ⟨c1 ++ c2, by simp [h1, h4, Nat.add_mul]; omega, fun j v hj => ?_, c1, c2, rfl, h3, h6⟩
      by_cases hlt : j < c1.length
      · rw [List.getElem?_append_left hlt] at hj
        have := h2 j v hj
        simpa using this
      · rw [List.getElem?_append_right (by omega)] at hj
        have := h5 _ v hj
        rw [show o + (k + 1) * size + (j - c1.length) = o + k * size + j by rw [Nat.add_mul]; omega] at this
        exact this
  have := key l 0 fun i x hx => by
    obtain ⟨cs, h1, h2, h3⟩ := h i x hx
    exact ⟨cs, h1, by simpa using h2, h3⟩
  simpa using this

theorem row_cells {u : MB} {e : K} {sh : Bool} {l : List (El e)} (h : ObjOk w S m u (.row e sh l)) : ∃ cells, cells.length = l.length * e.size ∧ w.rangeAt u.b u.o cells ∧ RepL (Rep w S e) l cells := by
  obtain ⟨A, cap, -, -, -, -, -, g5, -⟩ := h
  exact flat_cells fun i x hx => let ⟨cs, h1, h2, h3, _⟩ := g5 i x hx; ⟨cs, h1, h2, h3⟩

/-- A row is read as data: from then on it is shared. -/
theorem StoRel.freezeRow (h : StoRel σ w S m) {id : Nat} {u : MB} {e : K} {sh : Bool} {l : List (El e)} (hs : σ id = some (.row e sh l)) (hu : m id = some u) :
    ∃ S', Step1 σ w S m (fun i => bif Nat.beq i id then some (.row e true l) else σ i) w S' m ∧ Rep w S' (.slice e) l [u.hv] ∧ (∀ x, u.o ≤ x → x < u.o + l.length * e.size → S' u.b x) := by
  obtain ⟨u', h1, h2⟩ := h.sto id _ hs
  rw [hu] at h1; cases h1
  obtain ⟨A, cap, g0, g1, g2, g3, g4, g5, g6⟩ := h2
  have hcap : l.length * e.size ≤ cap * e.size := Nat.mul_le_mul_right _ g1
  let S' : Cells := fun b x => S b x ∨ (b = u.b ∧ u.o ≤ x ∧ x < u.o + l.length * e.size)
  have hk : Keeps w S w S' := ⟨fun _ _ q => .inl q, fun _ _ _ _ q => q⟩
  have elem : ∀ x, u.o ≤ x → x < u.o + l.length * e.size → ∃ i y j, l[i]? = some y ∧ j < e.size ∧ x = u.o + i * e.size + j := by
    intro x hx1 hx2
    have hpos : 0 < e.size := by
      rcases Nat.eq_zero_or_pos e.size with h0 | h0
      · rw [h0] at hx2; omega
      · exact h0
    have hlt : (x - u.o) / e.size < l.length := by rw [Nat.div_lt_iff_lt_mul hpos]; omega
    refine ⟨(x - u.o) / e.size, _, (x - u.o) % e.size, List.getElem?_eq_getElem hlt, Nat.mod_lt _ hpos, ?_⟩
    have := Nat.div_add_mod (x - u.o) e.size
    rw [Nat.mul_comm] at this
    omega
  have hS' : ∀ b x, S' b x → S b x ∨ (w.heap.size ≤ b ∧ b < w.heap.size) ∨ OwnJ (fun i => i = id) σ m b x := by
    rintro b x (hx | ⟨hb, hx1, hx2⟩)
    · exact .inl hx
    · subst hb
      cases sh with
      | true =>
        obtain ⟨i, y, j, hy, hj, hxe⟩ := elem x hx1 hx2
        obtain ⟨cs, k1, k2, k3, k4⟩ := g5 i y hy
        left; rw [hxe]; exact k4 rfl j hj
      | false =>
        right; right
        refine ⟨id, _, u, rfl, hs, hu, ?_⟩
        cases hA : A with
        | none => have := g3 hA; rw [this] at g1; have : l.length = 0 := by omega
                  rw [this] at hx2; omega
        | some ad => exact ⟨l.length, cap, ad, by rw [g0, hA], rfl, hx1, by omega, fun q => by cases q⟩
  have hOwn : ∀ b x, Own u (.row e true l) b x → Own u (.row e sh l) b x ∧ ¬ S' b x := by
    rintro b x ⟨n, cap', a', q1, q2, q3, q4, q5⟩
    have hxl := q5 rfl
    refine ⟨⟨n, cap', a', q1, q2, q3, q4, fun _ => hxl⟩, ?_⟩
    rintro (hx | ⟨_, _, hx2⟩)
    · exact h.stab id _ u hs hu b x hx ⟨n, cap', a', q1, q2, q3, q4, fun _ => hxl⟩
    · omega
  refine ⟨S', ?_, ?_, fun x hx1 hx2 => .inr ⟨rfl, hx1, hx2⟩⟩
  · obtain ⟨k1, k2, k3⟩ := h.change (J := fun i => i = id) (F := fun _ _ => False) (σ' := fun i => bif Nat.beq i id then some (.row e true l) else σ i) (m' := m) (S' := S')
      (fun i hi => upd_ne hi) (fun _ _ q => q) (Touch.refl _ w) (fun b x hF _ => hF.elim) (fun _ _ q => .inl q) hS'
      (fun i o hi ho => by
        subst hi
        rw [upd_eq] at ho; cases ho
        refine ⟨u, hu, ⟨A, cap, g0, g1, g2, g3, g4, fun i x hx => ?_, fun x hx => g6 x (hOwn _ x hx).1⟩, fun b x hx => ⟨.inr ⟨_, _, u, rfl, hs, hu, (hOwn b x hx).1⟩, (hOwn b x hx).2⟩⟩
        obtain ⟨cs, k1, k2, k3, k4⟩ := g5 i x hx
        refine ⟨cs, k1, k2, k3.keep hk, fun _ j hj => .inr ⟨rfl, by omega, ?_⟩⟩
        have hi := (List.getElem?_eq_some_iff.1 hx).1
        have : i * e.size + e.size ≤ l.length * e.size := by rw [← Nat.succ_mul]; exact Nat.mul_le_mul_right _ hi
        omega)
      (fun i j o p u v hi hj hij => absurd (hi.trans hj.symm) hij)
    exact ⟨k1, k2, k3⟩
  · refine ⟨A, cap, by rw [g0], g1, fun i x hx => ?_⟩
    obtain ⟨cs, k1, k2, k3, k4⟩ := g5 i x hx
    have hi := (List.getElem?_eq_some_iff.1 hx).1
    have hle : i * e.size + e.size ≤ l.length * e.size := by rw [← Nat.succ_mul]; exact Nat.mul_le_mul_right _ hi
    cases hA : A with
    | none => have := g3 hA; omega
    | some ad =>
      have := g4 ad hA (by omega)
      subst this
      exact ⟨u.b, u.o, cs, rfl, k1, ⟨k2, fun j hj => .inr ⟨rfl, by omega, by omega⟩⟩, k3.keep hk⟩

theorem freeze_ok : ∀ {c : K} {t : T} {cs : List Value} {x : El c} {u : Ups} {σ : Nat → Option Obj} {S : Cells}, StoRel σ w S m → Flag σ0 σ → freeze σ0 c t = some (x, u) → RepC w S m t cs →
    ∃ S', Step1 σ w S m (upds u σ) w S' m ∧ Rep w S' c x cs ∧ Flag σ0 (upds u σ)
  | c, .val c' y, cs, x, u, σ, S, h, hf, he, hr => by
    have he' : (castE c' c y).map (fun y => (y, ([] : Ups))) = some (x, u) := by cases c <;> first | exact he | (rename_i n e; cases n <;> exact he)
    obtain ⟨z, hz, e⟩ := Option.map_eq_some_iff.1 he'
    cases e
    exact ⟨S, Step1.refl h, Rep.cast hz hr, hf⟩
  | .slice e, .nils e', cs, x, u, σ, S, h, hf, he, hr => by
    simp only [freeze, Option.some.injEq, Prod.mk.injEq] at he
    obtain ⟨e1, e2⟩ := he
    subst e1; subst e2
    simp only [RepC] at hr; subst hr
    exact ⟨S, Step1.refl h, ⟨none, 0, rfl, Nat.le_refl _, fun i x hx => by simp at hx⟩, hf⟩
  | .slice e, .row id, cs, x, u, σ, S, h, hf, he, hr => by
    simp only [freeze] at he
    split at he
    case h_2 => cases he
    rename_i e' sh l hs
    obtain ⟨z, hz, e1⟩ := Option.map_eq_some_iff.1 he
    cases e1
    obtain ⟨ee, hz⟩ := castE_some hz
    cases ee
    cases hz
    obtain ⟨sh', hs'⟩ := hf _ _ _ _ hs
    obtain ⟨u', hu, ecs, -⟩ := hr
    subst ecs
    obtain ⟨S', k1, k2, -⟩ := h.freezeRow hs' hu
    refine ⟨S', by rw [upds_one]; exact k1, k2, fun i e sh l hi => ?_⟩
    rw [upds_one]
    by_cases hid : i = id
    · subst hid
      rw [hs] at hi; cases hi
      exact ⟨true, upd_eq⟩
    · show ∃ sh', (bif Nat.beq i id then _ else σ i) = _
      rw [upd_ne hid]; exact hf i e sh l hi
  | .unit, .unit, cs, x, u, σ, S, h, hf, he, hr => by
    simp only [freeze, Option.some.injEq, Prod.mk.injEq] at he
    obtain ⟨e1, e2⟩ := he
    subst e2
    exact ⟨S, Step1.refl h, hr, hf⟩
  | .cons ka kb, .pair y z, cs, x, u, σ, S, h, hf, he, ⟨c1, c2, ec, h1, h2⟩ => by
    simp only [freeze] at he
    obtain ⟨⟨v1, u1⟩, e1, he⟩ := Option.bind_eq_some_iff.1 he
    obtain ⟨⟨v2, u2⟩, e2, he⟩ := Option.map_eq_some_iff.1 he
    cases he
    obtain ⟨S1, k1, k2, k3⟩ := freeze_ok h hf e1 h1
    obtain ⟨S2, q1, q2, q3⟩ := freeze_ok k1.rel k3 e2 (h2.keep k1.keeps (fun _ _ q => q))
    refine ⟨S2, by rw [upds_append]; exact k1.trans q1, ⟨c1, c2, ec, k2.keep q1.keeps, q2⟩, by rw [upds_append]; exact q3⟩
  | .arr 0 e, .unit, cs, x, u, σ, S, h, hf, he, hr => by
    simp only [freeze, Option.some.injEq, Prod.mk.injEq] at he
    obtain ⟨e1, e2⟩ := he
    subst e1; subst e2
    exact ⟨S, Step1.refl h, ⟨rfl, hr⟩, hf⟩
  | .arr (n + 1) e, .pair y z, cs, x, u, σ, S, h, hf, he, ⟨c1, c2, ec, h1, h2⟩ => by
    simp only [freeze] at he
    obtain ⟨⟨v1, u1⟩, e1, he⟩ := Option.bind_eq_some_iff.1 he
    obtain ⟨⟨v2, u2⟩, e2, he⟩ := Option.map_eq_some_iff.1 he
    cases he
    obtain ⟨S1, k1, k2, k3⟩ := freeze_ok h hf e1 h1
    obtain ⟨S2, q1, q2, q3⟩ := freeze_ok k1.rel k3 e2 (h2.keep k1.keeps (fun _ _ q => q))
    refine ⟨S2, by rw [upds_append]; exact k1.trans q1, ⟨by simp [q2.1], c1, c2, ec, k2.keep q1.keeps, q2.2⟩, by rw [upds_append]; exact q3⟩

/-! ### Structs and arrays -/
theorem fields_places {ty : TypeId → Option K} (hty : ∀ t c, ty t = some c → TyOk P ty t c) : ∀ {fs : List Field} {c : K} {off : Nat}, FieldsOk ty fs c off →
    ∃ ps, fs.mapM (fun f => (P.info? f.type).map fun i => (f.offset, i.size)) = some ps ∧ ∀ j d, codeAt c [.fld j] = some d → ps[j]? = some (off + offK c [.fld j], d.size)
  | [], .unit, off, _ => ⟨[], rfl, fun j d h => by simp [codeAt] at h⟩
  | f :: r, .cons ka kb, off, ⟨h1, h2, _, h4⟩ => by
    obtain ⟨i, h5, h6, _⟩ := (hty _ _ h2).info
    obtain ⟨ps, h7, h8⟩ := fields_places hty h4
    refine ⟨(f.offset, i.size) :: ps, by simp [List.mapM_cons, h5, h7], fun j d h => ?_⟩
    cases j with
    | zero =>
      have : ka = d := by cases ka <;> simpa [codeAt] using h
      subst this
      have e : offK (.cons ka kb) [.fld 0] = 0 := by cases ka <;> rfl
      simp [h1, h6, e]
    | succ j =>
      have := h8 j d h
      simp only [List.getElem?_cons_succ, this, offK]
      congr 2; omega
  | [], .cons _ _, _, h => h.elim
  | _ :: _, .unit, _, h => h.elim
  | [], .int _, _, h => h.elim
  | [], .bool, _, h => h.elim
  | [], .str, _, h => h.elim
  | [], .hdr, _, h => h.elim
  | [], .ref _, _, h => h.elim
  | [], .slice _, _, h => h.elim
  | [], .arr _ _, _, h => h.elim
  | _ :: _, .int _, _, h => h.elim
  | _ :: _, .bool, _, h => h.elim
  | _ :: _, .str, _, h => h.elim
  | _ :: _, .hdr, _, h => h.elim
  | _ :: _, .ref _, _, h => h.elim
  | _ :: _, .slice _, _, h => h.elim
  | _ :: _, .arr _ _, _, h => h.elim

theorem parts_ok (hr : Rel s a.tmps w S m) {c : K} {arr : Bool} {place : Nat → Option (Nat × Nat)}
    (hp : ∀ i d, codeAt c (bif arr then [.idx (.ofNat i)] else [.fld i]) = some d → place i = some (offK c (bif arr then [.idx (.ofNat i)] else [.fld i]), d.size)) :
    ∀ {ps : List (Nat × Operand)} {t : T} {cs : List Value} {k : T → Option R}, t.fits c = true → RepC w S m t cs → parts s.env arr c ps t k = some r →
      ∃ t' cs', k t' = some r ∧ t'.fits c = true ∧ RepC w S m t' cs' ∧ Instr.fill place cs.toArray (ps.map fun (i, x) => (i, a.eval x)) = some cs'.toArray
  | [], t, cs, k, hf, hrep, h => ⟨t, cs, h, hf, hrep, rfl⟩
  | (i, x) :: ps, t, cs, k, hf, hrep, h => by
    simp only [parts] at h
    split at h
    case h_2 => cases h
    rename_i d hd
    split at h
    case h_2 => cases h
    rename_i u hu
    obtain ⟨vs, rv, sv⟩ := of_repV (opnd_any hu) (opnd_ok hr hu)
    obtain ⟨y, hk, hl, hyf, hy⟩ := setT_ok hf hd rv h
    obtain ⟨h3, h4⟩ := hy cs hrep
    rw [hl.2.2 (opnd_any hu)] at sv
    obtain ⟨t', cs', k1, k2, k3, k4⟩ := parts_ok hr hp hyf h3 hk
    refine ⟨t', cs', k1, k2, k3, ?_⟩
    rw [List.map_cons, fill_step (by rw [hp i d hd, hl.1]) (cells_of_shut sv hl.2.1) (by rw [hl.1]; exact h4)]
    exact k4

theorem ok_build (hC : CtxOk P C) (hr : Rel s a.tmps w S m) {t : TypeId} {ps : Array (Nat × Operand)} (ho : o.op = .build t ps) (he : evalOp C o s.env s.sto κ = some r) : Ok P s a w S m o κ r := by
  simp only [evalOp, ho] at he
  split at he
  case h_2 => cases he
  rename_i c hc
  obtain ⟨hagg, hg⟩ := bif_some he
  have hT := hC.ty _ _ hc
  have hz := zeroT_ok (w := w) (S := S) (m := m) c
  obtain ⟨i, i1, i2, i3, i4⟩ := hT.info
  have hzc : (shutV c.isAgg (zcells c)).cells = (zcells c).toArray := cells_of_shut (shut_of (zcells_length c)) (zcells_one c)
  have fin : ∀ {t' : T} {cs' : List Value}, κ t' [] = some r → t'.fits c = true → RepC w S m t' cs' → P.built t ((ps.map fun (i, x) => (i, a.eval x)).toList) = some cs'.toArray → Ok P s a w S m o κ r := by
    intro t' cs' k1 k2 k3 k4
    refine Ok.pure (v := .agg cs'.toArray) hr k1 (repV_of k2 k3 (by rw [hagg]; simp [Shut])) ?_
    have := run_build (P := P) w t (ps.map fun (i, x) => (i, a.eval x)) cs'.toArray k4
    simp [execOp, ho, this]
  cases c with
  | unit =>
    obtain ⟨fs, h1, h2⟩ := hT.desc
    obtain ⟨pl, h3, h4⟩ := fields_places hC.ty h2
    obtain ⟨t', cs', k1, k2, k3, k4⟩ := parts_ok (arr := false) (place := fun i => pl.toArray[i]?) hr (fun i d hd => by simpa using h4 i d hd) hz.2 hz.1 hg
    exact fin k1 k2 k3 (by simp only [Program.built, i1, h1, i4, h3, hzc]; simpa using k4)
  | cons ka kb =>
    obtain ⟨fs, h1, h2⟩ := hT.desc
    obtain ⟨pl, h3, h4⟩ := fields_places hC.ty h2
    obtain ⟨t', cs', k1, k2, k3, k4⟩ := parts_ok (arr := false) (place := fun i => pl.toArray[i]?) hr (fun i d hd => by simpa using h4 i d hd) hz.2 hz.1 hg
    exact fin k1 k2 k3 (by simp only [Program.built, i1, h1, i4, h3, hzc]; simpa using k4)
  | arr n e =>
    obtain ⟨te, h1, h2⟩ := hT.desc
    obtain ⟨j, j1, j2, _⟩ := (hC.ty _ _ h2).info
    obtain ⟨t', cs', k1, k2, k3, k4⟩ := parts_ok (arr := true) (place := fun i => some (i * e.size, e.size)) hr (fun i d hd => by
      have : e = d := by cases e <;> simpa [codeAt] using hd
      subst this
      have e1 : offK (.arr n e) [.idx (.ofNat i)] = i * e.size := by cases e <;> simp [offK]
      simp only [cond_true, e1]) hz.2 hz.1 hg
    exact fin k1 k2 k3 (by simp only [Program.built, i1, h1, i4, j1, j2, hzc]; simpa using k4)
  | _ => cases hagg
end
end Go.Proofs.D
