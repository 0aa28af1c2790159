/- Cuts of slices, rows and arrays. -/
import Derived.Test.YtmmhjcimijfipaaGreatDRow
set_option linter.unusedVariables false
set_option linter.unusedSimpArgs false
namespace Go.Proofs.D
open Go.RowKit

section
variable {P : Program} {C : Ctx} {s : St} {a : Act} {w w' : World} {S S' : Cells} {m m' : Nat → Option MB} {R : Type} {κ : T → Ups → Option R} {r : R} {o : Oper} {σ σ0 : Nat → Option Obj}

theorem run_bound {k : IntKind} {i : Int} {y : Nat} {code : BoundsCode} (h0 : 0 ≤ i) (h1 : i ≤ (y : Int)) : (Instr.sliceBound (.int k i) y code).run P w = .ok i.toNat w := by
  simp [Instr.sliceBound, asIntOf, Sem.run_bind, h0, h1]

theorem optOpnd_none {x : Option Operand} (h : optOpnd s.env x = some none) : x = none := by
  cases x with
  | none => rfl
  | some x => simp [optOpnd] at h
theorem optOpnd_int (hr : Rel s a.tmps w S m) {x : Option Operand} {k : IntKind} {i : Int} (h : optOpnd s.env x = some (some (.val (.int k) i))) : x.map a.eval = some (.int k i) := by
  cases x with
  | none => simp [optOpnd] at h
  | some x =>
    simp only [optOpnd] at h
    obtain ⟨t, h1, h2⟩ := Option.map_eq_some_iff.1 h
    cases h2
    simp [repV_int (opnd_ok hr h1)]

theorem cut_ok (hr : Rel s a.tmps w S m) {lo hi : Option Operand} {x y : Option T} {len cap : Nat} {κ' : Nat → Nat → Option R} (hx : optOpnd s.env lo = some x) (hy : optOpnd s.env hi = some y)
    (h : cutK len x y κ' = some r) (hcap : len ≤ cap) (b : Bool) :
    ∃ p q, κ' p q = some r ∧ p ≤ q ∧ q ≤ len ∧ (Instr.sliceBounds b len cap (lo.map a.eval) (hi.map a.eval) none).run P w = .ok (p, q, cap) w := by
  unfold cutK at h
  split at h
  · rw [optOpnd_none hx, optOpnd_none hy]
    exact ⟨0, len, h, Nat.zero_le _, Nat.le_refl _, by simp [Instr.sliceBounds]⟩
  · rename_i k i
    obtain ⟨i, rfl⟩ : ∃ i' : Int, i' = i := ⟨i, rfl⟩
    obtain ⟨hb, hk⟩ := chk_some h
    simp only [Bool.and_eq_true, decide_eq_true_eq] at hb
    have hb1 : (0 : Int) ≤ i := hb.1
    have hb2 : i ≤ (len : Int) := hb.2
    rw [optOpnd_int hr hx, optOpnd_none hy]
    refine ⟨_, _, hk, by omega, Nat.le_refl _, by simp [Instr.sliceBounds, Sem.run_bind, run_bound hb1 hb2]⟩
  · rename_i k i
    obtain ⟨i, rfl⟩ : ∃ i' : Int, i' = i := ⟨i, rfl⟩
    obtain ⟨hb, hk⟩ := chk_some h
    simp only [Bool.and_eq_true, decide_eq_true_eq] at hb
    have hb1 : (0 : Int) ≤ i := hb.1
    have hb2 : i ≤ (len : Int) := hb.2
    have hb3 : i ≤ (cap : Int) := by omega
    rw [optOpnd_none hx, optOpnd_int hr hy]
    refine ⟨_, _, hk, Nat.zero_le _, by omega, by simp [Instr.sliceBounds, Sem.run_bind, run_bound hb1 hb3]⟩
  · rename_i k i k' j
    obtain ⟨i, rfl⟩ : ∃ i' : Int, i' = i := ⟨i, rfl⟩
    obtain ⟨j, rfl⟩ : ∃ i' : Int, i' = j := ⟨j, rfl⟩
    obtain ⟨hb, hk⟩ := chk_some h
    simp only [Bool.and_eq_true, decide_eq_true_eq] at hb
    have hb1 : (0 : Int) ≤ i := hb.1.1
    have hb2 : i ≤ j := hb.1.2
    have hb3 : j ≤ (len : Int) := hb.2
    have hb4 : (0 : Int) ≤ j := by omega
    have hb5 : j ≤ (cap : Int) := by omega
    have hb6 : i ≤ (j.toNat : Int) := by omega
    rw [optOpnd_int hr hx, optOpnd_int hr hy]
    refine ⟨_, _, hk, by omega, by omega, by simp [Instr.sliceBounds, Sem.run_bind, run_bound hb4 hb5, run_bound hb1 hb6]⟩
  · cases h

theorem cut3_ok (hr : Rel s a.tmps w S m) {lo hi mx : Option Operand} {x : Option T} {k k' : IntKind} {h' m' : Int} {len cap : Nat} {κ' : Nat → Nat → Option R} (hx : optOpnd s.env lo = some x) (hy : optOpnd s.env hi = some (some (.val (.int k) h')))
    (hz : optOpnd s.env mx = some (some (.val (.int k') m'))) (h : cutK len x (some (.val (.int .i64) h')) (fun p q => chk (h' == m') (κ' p q)) = some r) (hcap : len ≤ cap) (b : Bool) :
    ∃ p q, κ' p q = some r ∧ p ≤ q ∧ q ≤ len ∧ (Instr.sliceBounds b len cap (lo.map a.eval) (hi.map a.eval) (mx.map a.eval)).run P w = .ok (p, q, q) w := by
  unfold cutK at h
  split at h
  · rename_i e; cases e
  · rename_i e; cases e
  · rename_i e; cases e
    obtain ⟨hb, hk0⟩ := chk_some h
    obtain ⟨he, hk⟩ := chk_some hk0
    clear hk0
    simp only [Bool.and_eq_true, decide_eq_true_eq, beq_iff_eq] at hb he
    have hb1 : (0 : Int) ≤ h' := hb.1
    have hb2 : h' ≤ (len : Int) := hb.2
    have he' : h' = m' := he
    subst he'
    have hb3 : h' ≤ (cap : Int) := by omega
    have hb4 : h' ≤ (h'.toNat : Int) := by omega
    rw [optOpnd_none hx, optOpnd_int hr hy, optOpnd_int hr hz]
    refine ⟨_, _, hk, Nat.zero_le _, by omega, by simp [Instr.sliceBounds, Sem.run_bind, run_bound hb1 hb3, run_bound hb1 hb4]⟩
  · rename_i k2 i k3 j e
    cases e
    obtain ⟨i, rfl⟩ : ∃ i' : Int, i' = i := ⟨i, rfl⟩
    obtain ⟨hb, hk0⟩ := chk_some h
    obtain ⟨he, hk⟩ := chk_some hk0
    clear hk0
    simp only [Bool.and_eq_true, decide_eq_true_eq, beq_iff_eq] at hb he
    have hb1 : (0 : Int) ≤ i := hb.1.1
    have hb2 : i ≤ h' := hb.1.2
    have hb3 : h' ≤ (len : Int) := hb.2
    have he' : h' = m' := he
    subst he'
    have hb4 : (0 : Int) ≤ h' := by omega
    have hb5 : h' ≤ (cap : Int) := by omega
    have hb6 : i ≤ (h'.toNat : Int) := by omega
    have hb7 : h' ≤ (h'.toNat : Int) := by omega
    rw [optOpnd_int hr hx, optOpnd_int hr hy, optOpnd_int hr hz]
    refine ⟨_, _, hk, by omega, by omega, by simp [Instr.sliceBounds, Sem.run_bind, run_bound hb4 hb5, run_bound hb4 hb7, run_bound hb1 hb6]⟩
  · cases h

/-- The part of a row. -/
theorem row_part {e : K} {l : List (El e)} {A : Option Addr} {p q cap : Nat} (h : RowAt w S (Rep w S e) e.size A l) (hpq : p ≤ q) (hq : q ≤ l.length) (hcap : l.length ≤ cap) {m' : Nat} (hm : q ≤ m') :
    RowAt w S (Rep w S e) e.size (if m' = p then A else A.map (·.add (p * e.size))) ((l.take q).drop p) := by
  intro i x hx
  rw [List.getElem?_drop, List.getElem?_take] at hx
  split at hx
  · rename_i hlt
    obtain ⟨b, off, cs, hA, hl, hs, hrep⟩ := h _ x hx
    have hne : ¬ m' = p := by omega
    refine ⟨b, off + p * e.size, cs, ?_, hl, ?_, hrep⟩
    · rw [if_neg hne, hA]; simp [Addr.add_mid]
    · rw [show off + p * e.size + i * e.size = off + (p + i) * e.size by rw [Nat.add_mul]; omega]; exact hs
  · cases hx

theorem part_length {α : Type} {l : List α} {p q : Nat} (hpq : p ≤ q) (hq : q ≤ l.length) : ((l.take q).drop p).length = q - p := by simp; omega

theorem repV_part {e : K} {l : List (El e)} {A : Option Addr} {p q cap : Nat} (h : RowAt w S (Rep w S e) e.size A l) (hpq : p ≤ q) (hq : q ≤ l.length) (hcap : l.length ≤ cap) {m' : Nat} (hm : q ≤ m') :
    RepV w S m (.val (.slice e) ((l.take q).drop p)) (.slice (if m' = p then A else A.map (·.add (p * e.size))) (q - p) (m' - p)) :=
  repV_mkSlice ⟨_, m' - p, by rw [part_length hpq hq], by rw [part_length hpq hq]; omega, row_part h hpq hq hcap hm⟩

/-- A full cut of data: a new row, all of it shared, without room. -/
theorem StoRel.newPart (h : StoRel σ w S m) {id : Nat} (hid : m id = none) {e : K} {l : List (El e)} {A : Option Addr} (hrow : RowAt w S (Rep w S e) e.size A l) :
    ∃ u : MB, u.hv = .slice A l.length l.length ∧ Step1 σ w S m (fun i => bif Nat.beq i id then some (.row e true l) else σ i) w S (putM1 m id u) := by
  obtain ⟨b, off, hb⟩ : ∃ b off, ∀ i x, l[i]? = some x → A = some ⟨b, off, none⟩ := by
    cases hl : l[0]? with
    | none =>
      refine ⟨0, 0, fun i x hx => ?_⟩
      have := List.getElem?_eq_none_iff.1 hl
      have := (List.getElem?_eq_some_iff.1 hx).1
      omega
    | some y =>
      obtain ⟨b, off, cs, hA, _⟩ := hrow 0 y hl
      exact ⟨b, off, fun _ _ _ => hA⟩
  refine ⟨⟨.slice A l.length l.length, b, off, .arr 0 e⟩, rfl, h.new hid (Touch.refl _ w) (fun _ _ q => q) (fun _ _ q => .inl q) ⟨A, l.length, rfl, Nat.le_refl _, rfl, fun hA => ?_, fun ad hA hpos => ?_, fun i x hx => ?_, ?_⟩ ?_⟩
  · cases hl : l[0]? with
    | none => have := List.getElem?_eq_none_iff.1 hl; show l.length = 0; omega
    | some y => rw [hb 0 y hl] at hA; cases hA
  · have := hb 0 (l[0]'hpos) (List.getElem?_eq_getElem hpos)
    rw [this] at hA; cases hA; rfl
  · obtain ⟨b', off', cs, hA, k1, k2, k3⟩ := hrow i x hx
    rw [hb i x hx] at hA; cases hA
    refine ⟨cs, k1, k2.1, k3, fun _ j hj => k2.2 j (by omega)⟩
  · rintro x ⟨n, cap', a', q1, q2, q3, q4, q5⟩
    cases q1; have := q5 rfl; simp only [] at this q4; omega
  · rintro b x ⟨n, cap', a', q1, q2, q3, q4, q5⟩
    cases q1; have := q5 rfl; simp only [] at this q4; omega

/-- A variable is frozen: what is cut from it reads it as data. -/
theorem StoRel.freezeCell (h : StoRel σ w S m) {id : Nat} {u : MB} {c : K} {fz : Bool} {t : T} (hs : σ id = some (.cell c fz t)) (hu : m id = some u) :
    ∃ S', Step1 σ w S m (fun i => bif Nat.beq i id then some (.cell c true t) else σ i) w S' m ∧ (∀ x, u.o ≤ x → x < u.o + c.size → S' u.b x) := by
  obtain ⟨u', h1, h2⟩ := h.sto id _ hs
  rw [hu] at h1; cases h1
  obtain ⟨g0, g1, gf, cs, g2, g3, g4, g5⟩ := h2
  have hl := RepC.length gf g3
  refine ⟨fun b x => S b x ∨ (b = u.b ∧ u.o ≤ x ∧ x < u.o + c.size), ?_, fun x h1 h2 => .inr ⟨rfl, h1, h2⟩⟩
  obtain ⟨k1, k2, k3⟩ := h.change (J := fun i => i = id) (F := fun _ _ => False) (σ' := fun i => bif Nat.beq i id then some (.cell c true t) else σ i) (m' := m) (S' := fun b x => S b x ∨ (b = u.b ∧ u.o ≤ x ∧ x < u.o + c.size))
    (fun i hi => upd_ne hi) (fun _ _ q => q) (Touch.refl _ w) (fun b x hF _ => hF.elim) (fun _ _ q => .inl q)
    (fun b x q => by
      rcases q with q | ⟨q1, q2, q3⟩
      · exact .inl q
      · subst q1
        cases fz with
        | true => left; have := g5 rfl (x - u.o) (by omega); rwa [show u.o + (x - u.o) = x by omega] at this
        | false => exact .inr (.inr ⟨id, _, u, rfl, hs, hu, rfl, rfl, q2, q3⟩))
    (fun i o hi ho => by
      subst hi
      rw [upd_eq] at ho; cases ho
      refine ⟨u, hu, ⟨g0, g1, gf, cs, g2, g3.keep ⟨fun _ _ q => .inl q, fun _ _ _ _ q => q⟩ (fun _ _ q => q), fun q => (by cases q), fun _ j hj => .inr ⟨rfl, by omega, by omega⟩⟩, ?_⟩
      rintro b x ⟨q, _⟩; cases q)
    (fun i j o p u v hi hj hij => absurd (hi.trans hj.symm) hij)
  exact ⟨k1, k2, k3⟩

theorem run_slice_row {ty : TypeId → Option K} {t : TypeId} {e : K} (hT : TyOk P ty t (.slice e)) (hty : ∀ t c, ty t = some c → TyOk P ty t c) {A : Option Addr} {n cap p q m' : Nat} {lo hi mx : Option Value}
    (h : (Instr.sliceBounds true n cap lo hi mx).run P w = .ok (p, q, m') w) :
    (Instr.sliceAt t (.slice A n cap) lo hi mx).run P w = .ok (.slice (if m' = p then A else A.map (·.add (p * e.size))) (q - p) (m' - p)) w := by
  obtain ⟨te, h1, h2⟩ := hT.desc
  simp [Instr.sliceAt, Instr.slice, Sem.run_bind, run_underlying h1, h, (hty _ _ h2).run_size]

theorem run_slice_arr {ty : TypeId → Option K} {t : TypeId} {e : K} {n : Nat} (hT : TyOk P ty t (.arr n e)) (hty : ∀ t c, ty t = some c → TyOk P ty t c) {ad : Addr} {p q m' : Nat} {lo hi mx : Option Value}
    (h : (Instr.sliceBounds false n n lo hi mx).run P w = .ok (p, q, m') w) :
    (Instr.sliceAt t (.pointer (some ad)) lo hi mx).run P w = .ok (.slice (some (if m' = p then ad else ad.add (p * e.size))) (q - p) (m' - p)) w := by
  obtain ⟨te, h1, h2⟩ := hT.desc
  simp [Instr.sliceAt, Instr.sureAddr, Sem.run_bind, run_underlying h1, h, (hty _ _ h2).run_size]

theorem rowAt_arr {e : K} {l : List (El e)} {b off : Nat} {cs : List Value} (hst : Stays w S b off cs) (h : RepL (Rep w S e) l cs) : RowAt w S (Rep w S e) e.size (some ⟨b, off, none⟩) l := fun i x hx => by
  obtain ⟨h3, h4⟩ := RepL.get (n := e.size) (fun _ _ h => Rep.length h) h hx
  exact ⟨b, off, _, rfl, Rep.length h3, Stays_sub hst _ _, h3⟩

theorem ok_slice (hC : CtxOk P C) (hr : Rel s a.tmps w S m) {t : TypeId} {x : Operand} {lo hi mx : Option Operand} (ho : o.op = .slice t x lo hi mx) {d : Nat} (hd : (match o.dst with | some d => d | none => 0) = d) (h1 : d < 99000) (h2 : s.done d = false)
    (he : evalOp C o s.env s.sto κ = some r) : Ok P s a w S m o κ r := by
  subst hd
  simp only [evalOp, ho] at he
  have mono : ∀ {w' : World} {S' : Cells} {ups : Ups} {t : T} {v : Value}, Step1 s.sto w S m (upds ups s.sto) w' S' m → RepV w' S' m t v →
      After s a.tmps w S m true (match o.dst with | some d => d | none => 0) t ups v w' := fun st hv => After.of hr st hv fun i u q => .inl q
  split at he
  · -- data
    rename_i e l tl th hx hlo hhi hmx
    obtain ⟨hb, hg⟩ := bif_some he
    clear he
    have hT := hC.ty _ _ (isTy_some hb)
    obtain ⟨A, cap, e1, hcap, hrow⟩ := repV_slice (opnd_ok hr hx)
    simp only [List.cons.injEq, and_true] at e1
    rw [optOpnd_none hmx] at ho
    obtain ⟨p, q, hk, hpq, hq, hrun⟩ := cut_ok (P := P) (w := w) hr hlo hhi hg hcap true
    have hfin := mono (ups := []) (Step1.refl hr.toStoRel) (repV_part (m' := cap) hrow hpq hq hcap (by omega))
    refine ⟨_, _, hk, fun next Q k => ?_⟩
    simp only [ho, makes] at k
    refine wp_value (w' := w) ?_ (k _ _ hfin)
    simp [execOp, ho, e1, Sem.run_bind, run_slice_row hT hC.ty hrun]
  · -- a row
    rename_i id tl th hx hlo hhi hmx
    split at he
    case h_2 => cases he
    rename_i e sh l hs
    obtain ⟨hb, hg⟩ := bif_some he
    clear he
    have hT := hC.ty _ _ (isTy_some hb)
    obtain ⟨u, hu, e1, _⟩ := repV_row (opnd_ok hr hx)
    obtain ⟨S1, k1, ⟨A, cap, e2, hcap, hrow⟩, -⟩ := hr.toStoRel.freezeRow hs hu
    simp only [List.cons.injEq, and_true] at e2
    rw [e2] at e1
    rw [optOpnd_none hmx] at ho
    obtain ⟨p, q, hk, hpq, hq, hrun⟩ := cut_ok (P := P) (w := w) hr hlo hhi hg hcap true
    have hfin := mono (ups := [(_, some _)]) k1 (repV_part (m' := cap) hrow hpq hq hcap (by omega))
    refine ⟨_, _, hk, fun next Q k => ?_⟩
    simp only [ho, makes] at k
    refine wp_value (w' := w) ?_ (k _ _ hfin)
    simp [execOp, ho, e1, Sem.run_bind, run_slice_row hT hC.ty hrun]
  · -- data, a full cut
    rename_i e l tl kh vh km vm hx hlo hhi hmx
    obtain ⟨hb, hg⟩ := bif_some he
    clear he
    have hT := hC.ty _ _ (isTy_some hb)
    obtain ⟨A, cap, e1, hcap, hrow⟩ := repV_slice (opnd_ok hr hx)
    simp only [List.cons.injEq, and_true] at e1
    obtain ⟨p, q, hk, hpq, hq, hrun⟩ := cut3_ok (P := P) (w := w) hr hlo hhi hmx hg hcap true
    have hrow' := row_part hrow hpq hq hcap (Nat.le_refl q)
    obtain ⟨u, hu, st⟩ := hr.toStoRel.newPart (hr.free h1 h2) hrow'
    rw [part_length hpq hq] at hu
    have hfin := After.of (ups := [(_, some _)]) (mk := true) hr st (repV_mkRow putM1_new hu) (New.inv h1 rfl)
    refine ⟨_, _, hk, fun next Q k => ?_⟩
    simp only [ho, makes] at k
    refine wp_value (w' := w) ?_ (k _ _ hfin)
    rw [hu]; simp [execOp, ho, e1, Sem.run_bind, run_slice_row hT hC.ty hrun]
  · -- a row, a full cut
    rename_i id tl kh vh km vm hx hlo hhi hmx
    split at he
    case h_2 => cases he
    rename_i e sh l hs
    obtain ⟨hb, hg⟩ := bif_some he
    clear he
    have hT := hC.ty _ _ (isTy_some hb)
    obtain ⟨u0, hu0, e1, _⟩ := repV_row (opnd_ok hr hx)
    obtain ⟨S1, k1, ⟨A, cap, e2, hcap, hrow⟩, -⟩ := hr.toStoRel.freezeRow hs hu0
    simp only [List.cons.injEq, and_true] at e2
    rw [e2] at e1
    obtain ⟨p, q, hk, hpq, hq, hrun⟩ := cut3_ok (P := P) (w := w) hr hlo hhi hmx hg hcap true
    have hrow' := row_part hrow hpq hq hcap (Nat.le_refl q)
    obtain ⟨u, hu, st⟩ := k1.rel.newPart (hr.free h1 h2) hrow'
    rw [part_length hpq hq] at hu
    have hfin := After.of (ups := [(_, some _), (_, some _)]) (mk := true) hr (k1.trans st) (repV_mkRow putM1_new hu) (New.inv h1 rfl)
    refine ⟨_, _, hk, fun next Q k => ?_⟩
    simp only [ho, makes] at k
    refine wp_value (w' := w) ?_ (k _ _ hfin)
    rw [hu]; simp [execOp, ho, e1, Sem.run_bind, run_slice_row hT hC.ty hrun]
  · -- an array of data
    rename_i n e l tl th hx hlo hhi hmx
    obtain ⟨hb, hg⟩ := bif_some he
    clear he
    have hT := hC.ty _ _ (isTy_some hb)
    obtain ⟨b, off, ds, e1, hrep, hst⟩ := repV_rptr (opnd_ok hr hx)
    have hrow := rowAt_arr hst hrep.2
    rw [optOpnd_none hmx] at ho
    obtain ⟨p, q, hk, hpq, hq, hrun⟩ := cut_ok (P := P) (w := w) hr hlo hhi hg (Nat.le_refl _) false
    have hql : q ≤ l.length := by rw [hrep.1]; exact hq
    have hv := repV_part (m := m) (m' := n) hrow hpq hql (Nat.le_refl _) hq
    have hfin := mono (ups := []) (Step1.refl hr.toStoRel) hv
    refine ⟨_, _, hk, fun next Q k => ?_⟩
    simp only [ho, makes] at k
    refine wp_value (w' := w) ?_ (k _ _ hfin)
    have ee : (if n = p then some (⟨b, off, none⟩ : Addr) else (some (⟨b, off, none⟩ : Addr)).map (·.add (p * e.size))) = some (if n = p then ⟨b, off, none⟩ else (⟨b, off, none⟩ : Addr).add (p * e.size)) := by split <;> rfl
    rw [ee]
    simp [execOp, ho, e1, Sem.run_bind, run_slice_arr hT hC.ty hrun]
  · -- an array in a variable
    rename_i id pa tl th hx hlo hhi hmx
    obtain ⟨hb, hg0⟩ := bif_some he
    clear he
    obtain ⟨ct, h3, hct⟩ := isTyO_some hb
    obtain ⟨u, hu, e1⟩ := repV_ptr (opnd_ok hr hx)
    have h3' := shapeP_some hr hu h3
    split at hg0
    case h_2 => cases hg0
    rename_i c fz y hs
    obtain ⟨-, g1, gf, cs, g2, g3, -⟩ := hr.obj hu hs
    rw [g1] at h3' e1
    obtain ⟨z, hg1, hzf, hz, hle⟩ := getT_ok gf g3 h3' hg0
    split at hg1
    case h_2 => cases hg1
    rename_i n e l
    have := T.fits_val hzf
    subst this
    have hT := hC.ty _ _ hct
    obtain ⟨S1, k1, k2⟩ := hr.toStoRel.freezeCell hs hu
    have hlen := Rep.length hz
    have hst : Stays w S1 u.b (u.o + offK c pa) ((cs.drop (offK c pa)).take (K.arr n e).size) := ⟨rangeAt_sub g2 _ _, fun j hj => k2 _ (by omega) (by omega)⟩
    have hz' := Rep.keep k1.keeps hz
    have hrow := rowAt_arr hst hz'.2
    rw [optOpnd_none hmx] at ho
    obtain ⟨p, q, hk, hpq, hq, hrun⟩ := cut_ok (P := P) (w := w) hr hlo hhi hg1 (Nat.le_refl _) false
    have hql : q ≤ l.length := by rw [hz.1]; exact hq
    have hv := repV_part (m := m) (m' := n) hrow hpq hql (Nat.le_refl _) hq
    have hfin := mono (ups := [(_, some _)]) k1 hv
    refine ⟨_, _, hk, fun next Q k => ?_⟩
    simp only [ho, makes] at k
    refine wp_value (w' := w) ?_ (k _ _ hfin)
    have ee : (if n = p then some (⟨u.b, u.o + offK c pa, none⟩ : Addr) else (some (⟨u.b, u.o + offK c pa, none⟩ : Addr)).map (·.add (p * e.size))) = some (if n = p then ⟨u.b, u.o + offK c pa, none⟩ else (⟨u.b, u.o + offK c pa, none⟩ : Addr).add (p * e.size)) := by split <;> rfl
    rw [ee]
    simp [execOp, ho, e1, Sem.run_bind, run_slice_arr hT hC.ty hrun]
  · cases he
end
end Go.Proofs.D
