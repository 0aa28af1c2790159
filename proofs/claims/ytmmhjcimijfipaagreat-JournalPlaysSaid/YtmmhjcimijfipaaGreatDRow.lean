/- New rows: literals, make, cuts. -/
import Derived.Test.YtmmhjcimijfipaaGreatDLit
set_option linter.unusedVariables false
set_option linter.unusedSimpArgs false
namespace Go.Proofs.D
open Go.RowKit

section
variable {P : Program} {C : Ctx} {s : St} {a : Act} {w w' : World} {S S' : Cells} {m m' : Nat → Option MB} {R : Type} {κ : T → Ups → Option R} {r : R} {o : Oper} {σ σ0 : Nat → Option Obj}

/-- A new row in a new block. -/
theorem StoRel.newRow (h : StoRel σ w S m) {id : Nat} (hid : m id = none) {w1 : World} (hT : Touch (fun _ _ => False) w w1) (hh : w1.heap.size = w.heap.size) {e : K} {l : List (El e)} {cells extra : List Value} {cap : Nat} (sh : Bool) (te : TypeId)
    (hrep : RepL (Rep w S e) l cells) (hlen : cells.length + extra.length = cap * e.size) (hcap : l.length ≤ cap) :
    Step1 σ w S m (fun i => bif Nat.beq i id then some (.row e sh l) else σ i) (w1.alloc (.cells (cells ++ extra).toArray te)) (fun b x => S b x ∨ (sh = true ∧ b = w.heap.size ∧ x < l.length * e.size))
      (putM1 m id ⟨.slice (some ⟨w.heap.size, 0, none⟩) l.length cap, w.heap.size, 0, .arr 0 e⟩) := by
  have hT' : Touch (fun _ _ => False) w (w1.alloc (.cells (cells ++ extra).toArray te)) := hT.trans (Touch.alloc _ _ _)
  have hcl := RepL.length (n := e.size) (fun _ _ h => Rep.length h) hrep
  have hk : Keeps w S (w1.alloc (.cells (cells ++ extra).toArray te)) (fun b x => S b x ∨ (sh = true ∧ b = w.heap.size ∧ x < l.length * e.size)) := hT'.keeps (fun _ _ _ q => q) fun _ _ q => .inl q
  have hr : (w1.alloc (.cells (cells ++ extra).toArray te)).rangeAt w.heap.size 0 (cells ++ extra) := by
    have := alloc_range w1 (cells ++ extra) te; rwa [hh] at this
  have hc : ∀ x, (w1.alloc (.cells (cells ++ extra).toArray te)).cell? ⟨w.heap.size, x, none⟩ = (cells ++ extra)[x]? ∧ (w1.alloc (.cells (cells ++ extra).toArray te)).frozen? ⟨w.heap.size, x, none⟩ = false := fun x => by
    have := alloc_cell w1 (cells ++ extra).toArray te x; rw [hh] at this; simpa using this
  have hsz : w.heap.size < (w1.alloc (.cells (cells ++ extra).toArray te)).heap.size := by
    show w.heap.size < (w1.heap.push _).size; simp [hh]
  refine h.new hid hT' (fun _ _ q => .inl q) (fun b x q => ?_) ⟨some ⟨w.heap.size, 0, none⟩, cap, rfl, hcap, rfl, (fun q => by cases q), (fun a q _ => by cases q; rfl), fun i x hx => ?_, ?_⟩ ?_
  · rcases q with q | ⟨_, q, _⟩
    · exact .inl q
    · subst q; exact .inr ⟨Nat.le_refl _, hsz⟩
  · obtain ⟨h3, h4⟩ := RepL.get (n := e.size) (fun _ _ h => Rep.length h) hrep hx
    have hi := (List.getElem?_eq_some_iff.1 hx).1
    have hle : i * e.size + e.size ≤ l.length * e.size := by rw [← Nat.succ_mul]; exact Nat.mul_le_mul_right _ hi
    refine ⟨_, Rep.length h3, fun j v hj => ?_, h3.keep hk, fun hs j hj => .inr ⟨hs, rfl, by simp only []; omega⟩⟩
    have := rangeAt_sub hr (i * e.size) e.size j v (by
      rw [List.drop_append, List.take_append, List.length_drop, show e.size - (cells.length - i * e.size) = 0 by omega]; simpa using hj)
    simpa using this
  · rintro x ⟨n, cap', a', q1, q2, q3, q4, q5⟩
    cases q1
    obtain ⟨h5, h6⟩ := hc x
    refine ⟨?_, h6⟩
    show ((w1.alloc _).cell? ⟨w.heap.size, x, none⟩).isSome = true
    rw [h5, List.getElem?_eq_getElem (by simp; simp only [] at q4; omega)]; rfl
  · rintro b x ⟨n, cap', a', q1, q2, q3, q4, q5⟩
    subst q2
    refine ⟨Nat.le_refl _, ?_⟩
    rintro (hS | ⟨hs, _, hx⟩)
    · exact Nat.lt_irrefl _ (h.live _ _ hS)
    · have := q5 hs; simp only [] at this; omega

theorem repV_newRow {w : World} {S : Cells} (m : Nat → Option MB) (id b off : Nat) (A : Option Addr) (n cap : Nat) (c : K) : RepV w S (putM1 m id ⟨.slice A n cap, b, off, c⟩) (.row id) (.slice A n cap) :=
  repV_mkRow (u := ⟨.slice A n cap, b, off, c⟩) putM1_new rfl

theorem elems_ok (hr : Rel s a.tmps w S m) {e : K} {σ0 : Nat → Option Obj} : ∀ {ps : List (Nat × Operand)} {j : Nat} {l : List (El e)} {u : Ups} {σ : Nat → Option Obj} {S0 : Cells}, StoRel σ w S0 m → Keeps w S w S0 → Flag σ0 σ → elems s.env σ0 e ps j = some (l, u) →
    ∃ S' cells, Step1 σ w S0 m (upds u σ) w S' m ∧ RepL (Rep w S' e) l cells ∧ ∀ pre zs, pre.length = j * e.size → zs.length = l.length * e.size →
      Instr.fill (fun i => some (i * e.size, e.size)) (pre ++ zs).toArray (ps.map fun (i, x) => (i, a.eval x)) = some (pre ++ cells).toArray
  | [], j, l, u, σ, S0, h, hk, hf, he => by
    simp only [elems, Option.some.injEq, Prod.mk.injEq] at he
    obtain ⟨e1, e2⟩ := he
    subst e1; subst e2
    refine ⟨S0, [], Step1.refl h, rfl, fun pre zs _ hz => ?_⟩
    have : zs = [] := by simpa using hz
    subst this; rfl
  | (i, x) :: ps, j, l, u, σ, S0, h, hk, hf, he => by
    simp only [elems] at he
    obtain ⟨hij, he1⟩ := bif_some he
    clear he
    have hij := Nat.eq_of_beq_eq_true hij
    subst hij
    split at he1
    case h_2 => cases he1
    rename_i t ht
    obtain ⟨⟨v1, u1⟩, e1, he2⟩ := Option.bind_eq_some_iff.1 he1
    obtain ⟨⟨l2, u2⟩, e2, he3⟩ := Option.map_eq_some_iff.1 he2
    cases he3
    obtain ⟨vs, rv, sv⟩ := of_repV (opnd_any ht) (opnd_ok hr ht)
    obtain ⟨S1, k1, k2, k3⟩ := freeze_ok h hf e1 (rv.keep hk (fun _ _ q => q))
    obtain ⟨S2, cells, q1, q2, q3⟩ := elems_ok hr k1.rel (hk.trans k1.keeps) k3 e2
    refine ⟨S2, vs ++ cells, by rw [upds_append]; exact k1.trans q1, ⟨vs, cells, rfl, k2.keep q1.keeps, q2⟩, fun pre zs hpre hzs => ?_⟩
    have hvl := Rep.length k2
    have hlen : zs.length = l2.length * e.size + e.size := by simp only [List.length_cons, Nat.add_mul, Nat.one_mul] at hzs; exact hzs
    have hvc : (a.eval x).cells = vs.toArray := by
      exact cells_of_shut sv (Rep.one k2)
    rw [List.map_cons, fill_step (vs := vs) (off := i * e.size) (by simp [hvl]) hvc (by simp; omega)]
    have e3 : splice (pre ++ zs) (i * e.size) vs = (pre ++ vs) ++ zs.drop e.size := by
      have := splice_right (c1 := pre) (c2 := zs) (o := 0) (vs := vs)
      rw [hpre, Nat.add_zero] at this
      rw [this]; simp [splice, hvl]
    rw [e3, q3 (pre ++ vs) _ (by simp [hpre, hvl, Nat.add_mul]) (by simp; omega)]
    simp

theorem run_buildSlice {ty : TypeId → Option K} {t te : TypeId} {e : K} {n : Nat} {parts : Array (Nat × Value)} {cells : List Value} (t1 : P.underlying t = some (.slice te)) (hE : TyOk P ty te e) (hsz : n * e.size ≤ 16777216)
    (hfill : ∀ zs : List Value, zs.length = n * e.size → Instr.fill (fun i => some (i * e.size, e.size)) zs.toArray parts.toList = some cells.toArray) :
    (Instr.buildSlice t n parts).run P w = .ok (.slice (some ⟨w.heap.size, 0, none⟩) n n) (w.alloc (.cells cells.toArray te)) := by
  have hf : ∀ z : Array Value, Instr.fill (fun i => some (i * e.size, e.size)) ((Array.range (n * e.size)).map (fun i => z[i % z.size]!)) parts.toList = some cells.toArray := fun z => by
    have := hfill ((Array.range (n * e.size)).map (fun i => z[i % z.size]!)).toList (by simp)
    rwa [Array.toArray_toList] at this
  have hng : ¬ (16777216 < n * e.size) := by omega
  unfold Instr.buildSlice
  by_cases h0 : n * e.size = 0
  · have := hf #[]
    simp [h0] at this
    simp [Sem.run_bind, run_underlying t1, hE.run_size, h0, this, run_newRow]
  · simp [Sem.run_bind, run_underlying t1, hE.run_size, h0, hng, hE.run_zero, hf, run_newRow]

theorem ok_buildSlice (hC : CtxOk P C) (hr : Rel s a.tmps w S m) {t : TypeId} {n : Nat} {ps : Array (Nat × Operand)} (ho : o.op = .buildSlice t n ps) {d : Nat} (hd : (match o.dst with | some d => d | none => 0) = d) (h1 : d < 99000) (h2 : s.done d = false)
    (he : evalOp C o s.env s.sto κ = some r) : Ok P s a w S m o κ r := by
  subst hd
  simp only [evalOp, ho] at he
  split at he
  case h_2 => cases he
  rename_i e hc
  split at he
  case h_2 => cases he
  rename_i l u hl
  obtain ⟨hb, hg⟩ := bif_some he
  simp only [Bool.and_eq_true] at hb
  have hn := Nat.eq_of_beq_eq_true hb.1
  have hsz := Nat.le_of_ble_eq_true hb.2
  obtain ⟨te, t1, t2⟩ := (hC.ty _ _ hc).desc
  have hE := hC.ty _ _ t2
  obtain ⟨S1, cells, k1, k2, k3⟩ := elems_ok hr hr.toStoRel (Keeps.refl w S) (Flag.refl _) hl
  have hcl := RepL.length (n := e.size) (fun _ _ h => Rep.length h) k2
  have st := k1.rel.newRow (hr.free h1 h2) (Touch.refl _ w) rfl (extra := []) false te k2 (by simp [hcl]) (Nat.le_refl _)
  have st' := k1.trans st
  refine ⟨_, _, hg, fun next Q k => ?_⟩
  simp only [ho, makes] at k ⊢
  refine wp_value (v := .slice (some ⟨w.heap.size, 0, none⟩) l.length l.length) (w' := w.alloc (.cells (cells ++ []).toArray te)) ?_ (k _ _ (After.of hr (by rw [upds_append]; exact st') (repV_newRow _ _ _ _ _ _ _ _) (New.inv h1 rfl)))
  have hrun := run_buildSlice (w := w) (cells := cells) (parts := ps.map fun (i, x) => (i, a.eval x)) t1 hE hsz fun zs hzs => by
    have := k3 [] zs (by simp) (by rw [hzs, hn])
    simpa using this
  simp only [List.append_nil]
  rw [hn]
  simp [execOp, ho, Sem.run_bind, hrun]

/-! ### make -/
theorem made_flat (z : Array Value) : ∀ k, (madeCells z (k * z.size)).toList = (List.replicate k z.toList).flatten
  | 0 => by simp [madeCells]
  | k + 1 => by
    have ih := made_flat z k
    have e : (madeCells z ((k + 1) * z.size)).toList = (madeCells z (k * z.size)).toList ++ z.toList := by
      simp only [madeCells, Array.toList_map, Array.toList_range, Nat.add_mul, Nat.one_mul, List.range_add, List.map_append, List.map_map]
      congr 1
      apply List.ext_getElem
      · simp
      · intro i h1 h2
        simp at h1 h2
        have : (k * z.size + i) % z.size = i := by rw [Nat.mul_comm, Nat.mul_add_mod]; exact Nat.mod_eq_of_lt h1
        simp [this, h1]
    rw [e, ih, List.replicate_succ', List.flatten_append]; simp

theorem mk_bounds (b : Nat) (p q : Int) (h0 : 0 ≤ p) (h1 : p ≤ q) (h2 : q ≤ 4294967296) (h3 : b ≤ 32768) : (b : Int) * q ≤ 281474976710656 ∧ q ≤ 9223372036854775807 ∧ p.toNat ≤ q.toNat ∧ p.toNat + (q.toNat - p.toNat) = q.toNat := by
  have h4 : (b : Int) * q ≤ 32768 * 4294967296 := Int.mul_le_mul (by omega) h2 (by omega) (by omega)
  omega

theorem ok_makeSlice (hC : CtxOk P C) (hr : Rel s a.tmps w S m) {t : TypeId} {x y : Operand} (ho : o.op = .makeSlice t x y) {d : Nat} (hd : (match o.dst with | some d => d | none => 0) = d) (h1 : d < 99000) (h2 : s.done d = false)
    (he : evalOp C o s.env s.sto κ = some r) : Ok P s a w S m o κ r := by
  subst hd
  simp only [evalOp, ho] at he
  split at he
  case h_2 => cases he
  rename_i e k p k' q hc hx hy
  obtain ⟨hfl, he1⟩ := bif_some he
  clear he
  obtain ⟨hb, hg⟩ := chk_some he1
  clear he1
  simp only [Bool.and_eq_true, decide_eq_true_eq] at hb
  obtain ⟨⟨hb0, hb1⟩, hb2⟩ := hb
  obtain ⟨te, t1, t2⟩ := (hC.ty _ _ hc).desc
  have hE := hC.ty _ _ t2
  obtain ⟨i, i1, i2, i3, i4⟩ := hE.info
  have hzc : (shutV e.isAgg (zcells e)).cells = (zcells e).toArray := cells_of_shut (shut_of (zcells_length e)) (zcells_one e)
  obtain ⟨b1, b2, hle, b4⟩ := mk_bounds i.bytes p q hb0 hb1 hb2 i3
  have hrun := run_make (P := P) w t te i _ t1 i1 i4 k k' p q hb0 hb1 b1 b2
  have hflat : (madeCells (zcells e).toArray (q.toNat * i.size)).toList = (List.replicate p.toNat (zcells e)).flatten ++ (List.replicate (q.toNat - p.toNat) (zcells e)).flatten := by
    have := made_flat (zcells e).toArray q.toNat
    simp only [List.size_toArray, zcells_length] at this
    rw [i2, this, ← List.flatten_append, List.replicate_append_replicate]
    rw [b4]
  have hrep : RepL (Rep w S e) (List.replicate p.toNat (zeroE e)) (List.replicate p.toNat (zcells e)).flatten := RepL.replicate (zeroE_ok (K.data_of_flat hfl)) _
  have st := hr.toStoRel.newRow (hr.free h1 h2) (Touch.refl _ w) rfl (extra := (List.replicate (q.toNat - p.toNat) (zcells e)).flatten) (cap := q.toNat) false te hrep (by
    simp [zcells_length]; rw [← Nat.add_mul, b4]) (by simpa using hle)
  refine ⟨_, _, hg, fun next Q kk => ?_⟩
  simp only [ho, makes] at kk ⊢
  refine wp_value (v := .slice (some ⟨w.heap.size, 0, none⟩) (List.replicate p.toNat (zeroE e)).length q.toNat) (w' := w.alloc (.cells ((List.replicate p.toNat (zcells e)).flatten ++ (List.replicate (q.toNat - p.toNat) (zcells e)).flatten).toArray te)) ?_ (kk _ _ (After.of hr (by rw [upds_one]; exact st) (repV_newRow _ _ _ _ _ _ _ _) (New.inv h1 rfl)))
  rw [← hflat]
  rw [hzc] at hrun
  have ex := repV_int (opnd_ok hr hx)
  have ey := repV_int (opnd_ok hr hy)
  simp [execOp, ho, ex, ey, Sem.run_bind, hrun]
end
end Go.Proofs.D
