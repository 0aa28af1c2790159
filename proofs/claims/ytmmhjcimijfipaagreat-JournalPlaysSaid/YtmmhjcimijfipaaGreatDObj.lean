/- Stores into objects, new objects. -/
import Derived.Test.YtmmhjcimijfipaaGreatDOps3
import Derived.Deep.AppendSrc
import Derived.Laws.MakeOwn
import Derived.ChangeAgain
set_option linter.unusedVariables false
set_option linter.unusedSimpArgs false
namespace Go.Proofs.D
open Go.RowKit

/-! ### Worlds -/
theorem cell_heap {w w' : World} {b : Nat} (h : w'.heap[b]? = w.heap[b]?) (x : Nat) : w'.cell? ⟨b, x, none⟩ = w.cell? ⟨b, x, none⟩ ∧ w'.frozen? ⟨b, x, none⟩ = w.frozen? ⟨b, x, none⟩ := by
  simp [World.cell?, World.frozen?, h]

theorem Touch.of_heap {F : Cells} {w w' : World} (h1 : w'.os = w.os) (h2 : Tape w w') (h3 : w'.output = w.output) (h4 : w.heap.size ≤ w'.heap.size) (h5 : ∀ b, b < w.heap.size → w'.heap[b]? = w.heap[b]?) : Touch F w w' :=
  ⟨h1, h2, h3, h4, fun b x hb _ => cell_heap (h5 b hb) x, fun b hb _ => h5 b hb⟩

theorem Touch.alloc (F : Cells) (w : World) (ob : Go.Obj) : Touch F w (w.alloc ob) :=
  .of_heap rfl ⟨rfl, Nat.le_refl _⟩ rfl (by show w.heap.size ≤ (w.heap.push ob).size; simp) fun b hb => by
    show (w.heap.push ob)[b]? = w.heap[b]?
    rw [Array.getElem?_push]; simp [Nat.ne_of_lt hb]
theorem Touch.drew (F : Cells) (w : World) : Touch F w w.drew := .of_heap rfl ⟨rfl, Nat.le_succ _⟩ rfl (Nat.le_refl _) fun b hb => rfl

theorem setCells_facts (b : Nat) : ∀ (vs : List Value) (o : Nat) (w : World), (w.setCells b o vs).os = w.os ∧ Tape w (w.setCells b o vs) ∧ (w.setCells b o vs).output = w.output ∧ (w.setCells b o vs).heap.size = w.heap.size ∧
    ∀ b', b' ≠ b → (w.setCells b o vs).heap[b']? = w.heap[b']?
  | [], o, w => ⟨rfl, Tape.refl w, rfl, rfl, fun _ _ => rfl⟩
  | v :: r, o, w => by
    obtain ⟨h1, h2, h3, h4, h5⟩ := setCells_facts b r (o + 1) (w.setCell ⟨b, o, none⟩ v)
    refine ⟨h1, h2, h3, by simpa [World.setCells, World.setCell] using h4, fun b' hb => ?_⟩
    rw [World.setCells, h5 b' hb]
    simp [World.setCell, Array.getElem?_modify, Ne.symm hb]

theorem Touch.setCells (w : World) (b o : Nat) (vs : List Value) : Touch (fun b' x => b' = b ∧ o ≤ x ∧ x < o + vs.length) w (w.setCells b o vs) := by
  obtain ⟨h1, h2, h3, h4, h5⟩ := setCells_facts b vs o w
  refine ⟨h1, h2, h3, by omega, fun b' x hb hx => ⟨?_, World.frozen?_setCells b vs o w _⟩, fun b' hb hx => ?_⟩
  · exact World.cell?_setCells_out b vs o w ⟨b', x, none⟩ fun h _ => by
      have h' : b' = b := h
      have := fun p => hx ⟨h', p⟩
      show x < o ∨ o + vs.length ≤ x
      omega
  · by_cases hbb : b' = b
    · cases vs with
      | nil => rfl
      | cons v r => exact absurd ⟨hbb, Nat.le_refl o, by simp⟩ (hx o)
    · exact h5 b' hbb

theorem rangeAt_splice {w : World} {b o off : Nat} {cs vs : List Value} (h : w.rangeAt b o cs) (hl : off + vs.length ≤ cs.length) : (w.setCells b (o + off) vs).rangeAt b o (splice cs off vs) := fun j v hj => by
  have hth : ∀ i, i < vs.length → (w.cell? ⟨b, o + off + i, none⟩).isSome = true := fun i hi => by
    have := h (off + i) (cs[off + i]'(by omega)) (List.getElem?_eq_getElem (by omega))
    rw [Nat.add_assoc, this]; rfl
  by_cases h1 : j < off
  · have e : (splice cs off vs)[j]? = cs[j]? := by
      rw [splice, List.getElem?_append_left (by simp; omega), List.getElem?_take]; simp [h1]
    rw [e] at hj
    rw [World.cell?_setCells_out b vs (o + off) w ⟨b, o + j, none⟩ fun _ _ => by show o + j < o + off ∨ _; omega]
    exact h j v hj
  · by_cases h2 : j < off + vs.length
    · have e : (splice cs off vs)[j]? = vs[j - off]? := by
        rw [splice, List.getElem?_append_right (by simp; omega), List.length_take, show min off cs.length = off by omega, List.getElem?_append_left (by omega)]
      rw [e] at hj
      have hj' : j - off < vs.length := by omega
      have := World.cell?_setCells_in b vs (o + off) w hth (j - off) hj'
      rw [show o + off + (j - off) = o + j by omega] at this
      rw [this, ← hj, List.getElem?_eq_getElem hj']
    · have e : (splice cs off vs)[j]? = cs[j]? := by
        rw [splice, List.getElem?_append_right (by simp; omega), List.length_take, show min off cs.length = off by omega, List.getElem?_append_right (by omega), List.getElem?_drop]
        congr 1; omega
      rw [e] at hj
      rw [World.cell?_setCells_out b vs (o + off) w ⟨b, o + j, none⟩ fun _ _ => by right; show o + off + vs.length ≤ o + j; omega]
      exact h j v hj

section
variable {P : Program} {C : Ctx} {s : St} {a : Act} {w w' : World} {S S' : Cells} {m m' : Nat → Option MB} {R : Type} {κ : T → Ups → Option R} {r : R} {o : Oper} {σ : Nat → Option Obj}

theorem upd_ne {i j : Nat} {x y : Option Obj} (h : ¬ i = j) : (bif Nat.beq i j then x else y) = y := by
  have : Nat.beq i j = false := by cases hb : Nat.beq i j with
    | false => rfl
    | true => exact absurd (Nat.eq_of_beq_eq_true hb) h
  rw [this]; rfl
theorem upd_eq {i : Nat} {x y : Option Obj} : (bif Nat.beq i i then x else y) = x := by simp

/-! ### What is known behind an operation -/
def idsAt (dn i : Nat) : Prop := i = 1000 + dn ∨ ∃ k, k < 1000 ∧ i = 1000000 + 1000 * dn + k

theorem After.of {tm : Array Value} {mk : Bool} {dn : Nat} {t : T} {ups : Ups} {v : Value} (hr : Rel s tm w S m) (h : Step1 s.sto w S m (upds ups s.sto) w' S' m') (hv : RepV w' S' m' t v)
    (hm : ∀ i u, m' i = some u → m i = some u ∨ (mk = true ∧ dn < 99000 ∧ idsAt dn i)) : After s tm w S m mk dn t ups v w' := by
  refine ⟨S', m', hv, ⟨h.rel, fun t => (hr.env t).keep h.keeps h.ext.maps, fun d hd hn => ?_, fun i hi => ?_⟩, h.ext⟩
  case refine_2 =>
    cases hq : m' i with
    | none => rfl
    | some u =>
      rcases hm _ _ hq with h1 | ⟨h1, hlt, h2⟩
      · rw [hr.top i hi] at h1; cases h1
      · rcases h2 with h2 | ⟨k', _, h2⟩ <;> omega
  have hn' : s.done d = false ∧ (mk = true → d ≠ dn) := by
    cases mk with
    | false => exact ⟨hn, fun h => by cases h⟩
    | true =>
      have := hn
      simp only [cond_true, Bool.or_eq_false_iff] at this
      exact ⟨this.2, fun _ e => by subst e; simp at this⟩
  obtain ⟨f1, f2⟩ := hr.fresh d hd hn'.1
  refine ⟨?_, fun k hk => ?_⟩
  · cases hq : m' (1000 + d) with
    | none => rfl
    | some u =>
      rcases hm _ _ hq with h1 | ⟨h1, hlt, h2⟩
      · rw [f1] at h1; cases h1
      · have := hn'.2 h1
        rcases h2 with h2 | ⟨k', _, h2⟩ <;> omega
  · cases hq : m' (1000000 + 1000 * d + k) with
    | none => rfl
    | some u =>
      rcases hm _ _ hq with h1 | ⟨h1, hlt, h2⟩
      · rw [f2 k hk] at h1; cases h1
      · have := hn'.2 h1
        rcases h2 with h2 | ⟨k', _, h2⟩ <;> omega

/-! ### Stores -/
/-- A variable's part put anew. -/
theorem StoRel.setCell (h : StoRel σ w S m) {id : Nat} {u : MB} {c d : K} {x y : T} {p : List Step} {v : T} {vs : List Value} (hs : σ id = some (.cell c false x)) (hu : m id = some u)
    (hvl : Leaf v d vs) (hyf : y.fits c = true) (hy : ∀ cs, RepC w S m x cs → RepC w S m y (splice cs (offK c p) vs) ∧ offK c p + d.size ≤ cs.length) :
    Step1 σ w S m (fun i => bif Nat.beq i id then some (.cell c false y) else σ i) (w.setCells u.b (u.o + offK c p) vs) S m ∧ w.there u.b (u.o + offK c p) vs.length := by
  obtain ⟨u', h1, h2⟩ := h.sto id _ hs
  rw [hu] at h1; cases h1
  obtain ⟨g0, g1, gf, cs, g2, g3, g4, -⟩ := h2
  obtain ⟨h3, h4⟩ := hy cs g3
  have hvl := hvl.1
  have hl := RepC.length gf g3
  have hT := Touch.setCells w u.b (u.o + offK c p) vs
  have hown : ∀ b x', (b = u.b ∧ u.o + offK c p ≤ x' ∧ x' < u.o + offK c p + vs.length) → Own u (.cell c false x) b x' := fun b x' ⟨e, l1, l2⟩ => ⟨rfl, e, by omega, by omega⟩
  have hk : Keeps w S (w.setCells u.b (u.o + offK c p) vs) S := hT.keeps (fun b x' hS hF => h.stab id _ u hs hu b x' hS (hown b x' hF)) fun _ _ q => q
  have hth : w.there u.b (u.o + offK c p) vs.length := fun j hj => by
    have := g2 (offK c p + j) (cs[offK c p + j]'(by omega)) (List.getElem?_eq_getElem (by omega))
    have h5 := g4 rfl (offK c p + j) (by omega)
    rw [← Nat.add_assoc] at this h5
    exact ⟨by rw [this]; rfl, h5⟩
  refine ⟨?_, hth⟩
  have hOJ : OwnJ (fun i => i = id) σ m = Own u (.cell c false x) := by
    funext b x'; apply propext; constructor
    · rintro ⟨i, o, u', e, h5, h6, h7⟩; subst e; rw [hs] at h5; cases h5; rw [hu] at h6; cases h6; exact h7
    · exact fun q => ⟨id, _, u, rfl, hs, hu, q⟩
  obtain ⟨k1, k2, k3⟩ := h.change (J := fun i => i = id) (σ' := fun i => bif Nat.beq i id then some (.cell c false y) else σ i) (m' := m) (S' := S)
    (fun i hi => upd_ne hi) (fun _ _ q => q) hT (fun b x' hF _ => by rw [hOJ]; exact hown b x' hF) (fun _ _ q => q) (fun _ _ q => .inl q)
    (fun i o hi ho => by
      subst hi
      rw [upd_eq] at ho; cases ho
      refine ⟨u, hu, ⟨g0, g1, hyf, _, rangeAt_splice g2 (by omega), h3.keep hk (fun _ _ q => q), fun _ j hj => ?_, fun q => by cases q⟩, fun b x' hx => ⟨.inr ?_, fun hS => h.stab i _ u hs hu b x' hS hx⟩⟩
      · rw [World.frozen?_setCells]; exact g4 rfl j hj
      · rw [hOJ]; exact hx)
    (fun i j o p u v hi hj hij => absurd (hi.trans hj.symm) hij)
  exact ⟨k1, k2, k3⟩

/-- A row's element's part put anew. -/
theorem StoRel.setRow (h : StoRel σ w S m) {id : Nat} {u : MB} {e d : K} {l : List (El e)} {n : Nat} {y z : El e} {p : List Step} {v : T} {vs : List Value} (hs : σ id = some (.row e false l)) (hu : m id = some u) (hn : l[n]? = some y)
    (hvl : Leaf v d vs) (hz : ∀ cs, Rep w S e y cs → Rep w S e z (splice cs (offK e p) vs) ∧ offK e p + d.size ≤ cs.length) :
    Step1 σ w S m (fun i => bif Nat.beq i id then some (.row e false (l.set n z)) else σ i) (w.setCells u.b (u.o + n * e.size + offK e p) vs) S m ∧ w.there u.b (u.o + n * e.size + offK e p) vs.length := by
  obtain ⟨u', h1, h2⟩ := h.sto id _ hs
  rw [hu] at h1; cases h1
  obtain ⟨A, cap, g0, g1, g2, g3, g4, g5, g6⟩ := h2
  obtain ⟨cs, k1, k2, k3, -⟩ := g5 n y hn
  obtain ⟨h3, h4⟩ := hz cs k3
  have hvl := hvl.1
  have hnl := (List.getElem?_eq_some_iff.1 hn).1
  have hT := Touch.setCells w u.b (u.o + n * e.size + offK e p) vs
  obtain ⟨ad, hA⟩ : ∃ ad, A = some ad := by
    cases hA : A with
    | none => have := g3 hA; omega
    | some ad => exact ⟨ad, rfl⟩
  have hcapn : n * e.size + e.size ≤ cap * e.size := by rw [← Nat.succ_mul]; exact Nat.mul_le_mul_right _ (by omega)
  have hown : ∀ b x', (b = u.b ∧ u.o + n * e.size + offK e p ≤ x' ∧ x' < u.o + n * e.size + offK e p + vs.length) → Own u (.row e false l) b x' := fun b x' ⟨e', l1, l2⟩ =>
    ⟨l.length, cap, ad, by rw [g0, hA], e', by omega, by omega, fun q => by cases q⟩
  have hk : Keeps w S (w.setCells u.b (u.o + n * e.size + offK e p) vs) S := hT.keeps (fun b x' hS hF => h.stab id _ u hs hu b x' hS (hown b x' hF)) fun _ _ q => q
  have hth : w.there u.b (u.o + n * e.size + offK e p) vs.length := fun j hj => g6 _ (hown _ _ ⟨rfl, by omega, by omega⟩)
  refine ⟨?_, hth⟩
  have hOJ : OwnJ (fun i => i = id) σ m = Own u (.row e false l) := by
    funext b x'; apply propext; constructor
    · rintro ⟨i, o, u', e, h5, h6, h7⟩; subst e; rw [hs] at h5; cases h5; rw [hu] at h6; cases h6; exact h7
    · exact fun q => ⟨id, _, u, rfl, hs, hu, q⟩
  have hOwn : ∀ b x', Own u (.row e false (l.set n z)) b x' → Own u (.row e false l) b x' := fun b x' ⟨n', cap', a', q1, q2, q3, q4, q5⟩ => ⟨n', cap', a', q1, q2, q3, q4, fun q => by cases q⟩
  obtain ⟨r1, r2, r3⟩ := h.change (J := fun i => i = id) (σ' := fun i => bif Nat.beq i id then some (.row e false (l.set n z)) else σ i) (m' := m) (S' := S)
    (fun i hi => upd_ne hi) (fun _ _ q => q) hT (fun b x' hF _ => by rw [hOJ]; exact hown b x' hF) (fun _ _ q => q) (fun _ _ q => .inl q)
    (fun i o hi ho => by
      subst hi
      rw [upd_eq] at ho; cases ho
      refine ⟨u, hu, ⟨A, cap, by simpa using g0, by simpa using g1, g2, g3, g4, fun i x hx => ?_, fun x hx => ?_⟩, fun b x' hx => ⟨.inr ?_, fun hS => h.stab i _ u hs hu b x' hS (hOwn b x' hx)⟩⟩
      · rw [List.getElem?_set] at hx
        by_cases hi : n = i
        · subst hi
          simp only [if_true, hnl] at hx
          cases hx
          refine ⟨splice cs (offK e p) vs, by rw [splice_length (by omega), k1], rangeAt_splice k2 (by omega), h3.keep hk, fun q => by cases q⟩
        · simp only [hi, if_false] at hx
          obtain ⟨cs', q1, q2, q3, -⟩ := g5 i x hx
          refine ⟨cs', q1, World.rangeAt_setCells_apart q2 _ _ _ (.inr ?_), q3.keep hk, fun q => by cases q⟩
          rcases Nat.lt_or_ge i n with hlt | hge
          · left
            have : i * e.size + e.size ≤ n * e.size := by rw [← Nat.succ_mul]; exact Nat.mul_le_mul_right _ hlt
            omega
          · right
            have : n * e.size + e.size ≤ i * e.size := by rw [← Nat.succ_mul]; exact Nat.mul_le_mul_right _ (by omega)
            omega
      · obtain ⟨q1, q2⟩ := g6 x (hOwn _ _ hx)
        exact ⟨World.isSome_setCells _ _ _ _ _ q1, by rw [World.frozen?_setCells]; exact q2⟩
      · rw [hOJ]; exact hOwn b x' hx)
    (fun i j o p u v hi hj hij => absurd (hi.trans hj.symm) hij)
  exact ⟨r1, r2, r3⟩

theorem upds_one (id : Nat) (o : Option Obj) (σ : Sto) : upds [(id, o)] σ = fun i => bif Nat.beq i id then o else σ i := rfl

theorem ok_store (hC : CtxOk P C) (hr : Rel s a.tmps w S m) {t : TypeId} {x y : Operand} (ho : o.op = .store t x y) (he : evalOp C o s.env s.sto κ = some r) : Ok P s a w S m o κ r := by
  simp only [evalOp, ho] at he
  split at he
  case h_2 => cases he
  rename_i id p v hx hy
  obtain ⟨hb, hg⟩ := bif_some he
  clear he
  obtain ⟨d, h1, hc⟩ := isTyO_some hb
  obtain ⟨u, hu, e1⟩ := repV_ptr (opnd_ok hr hx)
  have h1' := shapeP_some hr hu h1
  have hv := opnd_ok hr hy
  obtain ⟨vs, rv, sv⟩ := of_repV (opnd_any hy) hv
  have fin : ∀ {y' : Obj} {off : Nat}, κ (.any 0) [(id, some y')] = some r → Leaf v d vs → off = offK u.code p →
      Step1 s.sto w S m (fun i => bif Nat.beq i id then some y' else s.sto i) (w.setCells u.b (u.o + off) vs) S m → w.there u.b (u.o + off) vs.length → Ok P s a w S m o κ r := by
    intro y' off hk hl eo hst hth
    subst eo
    refine ⟨_, _, hk, fun next Q k => ?_⟩
    have sv' := sv
    rw [hl.2.2 (opnd_any hy)] at sv'
    have hrun := (hC.ty _ _ hc).run_store (w := w) (b := u.b) (o := u.o + offK u.code p) (cells_of_shut sv' hl.2.1) hl.1 hl.2.1 hth
    exact wp_skip' (w' := w.setCells u.b (u.o + offK u.code p) vs) (by simp [execOp, ho, e1, Sem.run_bind, hrun]) (k undef _ (After.of hr (by rw [upds_one]; exact hst) (.inl rfl) fun i u h => .inl h))
  split at hg
  · rename_i c x' hs
    obtain ⟨g0, g1, gf, cs, g2, g3, -⟩ := hr.obj hu hs
    rw [g1] at h1'
    obtain ⟨y', hk, hl, hyf, hyy⟩ := setT_ok gf h1' rv hg
    obtain ⟨k1, k2⟩ := hr.toStoRel.setCell (v := v) hs hu hl hyf hyy
    exact fin hk hl (by rw [g1]) k1 k2
  · rename_i e l hs
    split at hg
    case h_2 => cases hg
    rename_i i q
    obtain ⟨A, cap, g0, g1, g2, g3, g4, g5, -⟩ := hr.obj hu hs
    rw [g2] at h1'
    obtain ⟨n, hi, hg2⟩ := natK_some hg
    clear hg
    obtain ⟨z, hz, hg3⟩ := nthN_some hg2
    clear hg2
    subst hi
    have hcd : codeAt e q = some d := h1'
    obtain ⟨y', hk, hl, hyy⟩ := setD_ok hcd rv hg3
    obtain ⟨k1, k2⟩ := hr.toStoRel.setRow hs hu hz hl hyy
    rw [Nat.add_assoc] at k1 k2
    exact fin hk hl (by rw [g2]; simp [offK]) k1 k2
  · cases hg
end
end Go.Proofs.D
