/- slices.DeleteFunc: what is left of a row is cleared. -/
import Derived.Test.YtgcecbkmmcgfkaaDDel
set_option linter.unusedVariables false
set_option linter.unusedSimpArgs false
namespace Go.Proofs.D
open Go.RowKit

section
variable {P : Program} {C : Ctx} {a : Act} {w : World} {S : Cells} {m m' : Nat → Option MB} {σ : Nat → Option Obj}

def rgD (f : Func) (r i : Nat) : Oper := (rops (bodyOf f) r).toList.getD i default
theorem wpOps_cons {ops : Array Oper} {i : Nat} {rest : List Nat} {o : Oper} {Q : Exit → Act → World → Prop} (ho : ops[i]? = some o) (hg : o.guard = none) (h : o.wp P a w (wpOps P ops Q rest) Q) : wpOps P ops Q (i :: rest) a w := by
  unfold wpOps
  rw [ho]
  simp only [Region.wanted, hg, if_true]
  exact .inl h

/-- A row of one's own turns, as long as it was. -/
theorem StoRel.turnRow (h : StoRel σ w S m) {id : Nat} {u : MB} {e : K} {l l2 : List (El e)} {ad : Addr} {cap : Nat} (hs : σ id = some (.row e false l)) (hu : m id = some u) (hv : u.hv = .slice (some ad) l.length cap)
    {W : World} (hT : Touch (fun b y => b = u.b ∧ u.o ≤ y ∧ y < u.o + cap * e.size) w W) (hl2 : l2.length = l.length)
    (hrow : ∀ i x, l2[i]? = some x → ∃ cs, cs.length = e.size ∧ W.rangeAt u.b (u.o + i * e.size) cs ∧ Rep w S e x cs)
    (hlive : ∀ y, u.o ≤ y → y < u.o + cap * e.size → (W.cell? ⟨u.b, y, none⟩).isSome = true ∧ W.frozen? ⟨u.b, y, none⟩ = false) :
    Step1 σ w S m (fun i => bif Nat.beq i id then some (.row e false l2) else σ i) W S m := by
  obtain ⟨u', h1, h2⟩ := h.sto id _ hs
  rw [hu] at h1; cases h1
  have hobj := h2
  obtain ⟨A', cap', g0, g1, g2, g3, g4, g5, g6⟩ := h2
  rw [hv] at g0; cases g0
  have hk : Keeps w S W S := hT.keeps (fun b y hS hF => h.stab id _ u hs hu b y hS ((own_all hv).2 hF)) fun _ _ q => q
  have hOJ : OwnJ (fun i => i = id) σ m = Own u (.row e false l) := by
    funext b y; apply propext; constructor
    · rintro ⟨i, o, u', ei, h5, h6, h7⟩
      subst ei; rw [hs] at h5; cases h5; rw [hu] at h6; cases h6; exact h7
    · exact fun q => ⟨id, _, u, rfl, hs, hu, q⟩
  have hOwn : ∀ b y, Own u (.row e false l2) b y → Own u (.row e false l) b y := fun b y q => (own_all hv).2 ((own_all hv).1 q)
  obtain ⟨k1, k2, k3⟩ := h.change (J := fun i => i = id) (F := fun b y => b = u.b ∧ u.o ≤ y ∧ y < u.o + cap * e.size) (σ' := fun i => bif Nat.beq i id then some (.row e false l2) else σ i) (m' := m) (S' := S)
    (fun i hi => upd_ne hi) (fun _ _ q => q) hT (fun b y hF _ => by rw [hOJ]; exact (own_all hv).2 hF) (fun _ _ q => q) (fun b y q => .inl q)
    (fun i o hi ho => by
      subst hi
      rw [upd_eq] at ho; cases ho
      refine ⟨u, hu, ⟨some ad, cap, by rw [hv, hl2], by omega, g2, (fun q => by cases q), g4, fun k y hy => ?_, fun y hy => ?_⟩, fun b y hy => ⟨.inr (by rw [hOJ]; exact hOwn b y hy), fun q => h.stab i _ u hs hu b y q (hOwn b y hy)⟩⟩
      · obtain ⟨cs, q1, q2, q3⟩ := hrow k y hy
        exact ⟨cs, q1, q2, q3.keep hk, fun q => by cases q⟩
      · obtain ⟨_, q2, q3⟩ := (own_all hv).1 hy
        exact hlive y q2 q3)
    (fun i j o p u v hi hj hij => absurd (hi.trans hj.symm) hij)
  exact ⟨k1, k2, k3⟩

def clrS (e c : K) : StSk := { env := [(0, .row 0), (5, .val (.int .i64))], objs := [.row e false, .cell c (.val c)] }
def clrG (e c : K) (v : (Unit × Int) × (List (El e) × El c × Unit)) : Option ((Unit × Int) × (List (El e) × El c × Unit)) :=
  chk (decide (0 ≤ v.1.2) && decide (v.1.2 < (v.2.1.length : Int))) (some (v.1, (v.2.1.take v.1.2.toNat ++ List.replicate (v.2.1.length - v.1.2.toNat) (zeroE e), v.2.2)))
def clrGiven (e c : K) : Given := { hd := clrS e c, outs := [(.normal, clrS e c)], G := clrG e c }

structure ClrFacts (P : Program) (C : Ctx) (fn : Func) (t : TypeId) (e : K) : Prop where
  h38 : 38 < C.n
  ht : C.ty t = some (.slice e)
  hfl : e.flat = true
  r : (rops (bodyOf fn) 11).toList = [rgD fn 11 0, rgD fn 11 1, rgD fn 11 2, rgD fn 11 3]
  o0 : (rgD fn 11 0).op = .move (.tmp 0)
  o1 : (rgD fn 11 1).op = .move (.tmp 5)
  o2 : (rgD fn 11 2).op = .slice t (.tmp 36) (some (.tmp 37)) none none
  o3 : (rgD fn 11 3).op = .call { callee := .builtin .clear, args := #[.tmp 38], argTypes := #[t] }
  d : [(rgD fn 11 0).dst, (rgD fn 11 1).dst, (rgD fn 11 2).dst, (rgD fn 11 3).dst] = [some 36, some 37, some 38, none]
  g : [(rgD fn 11 0).guard, (rgD fn 11 1).guard, (rgD fn 11 2).guard, (rgD fn 11 3).guard] = [none, none, none, none]

theorem clr_ok {fn : Func} {t : TypeId} {e c : K} (hC : CtxOk P C) (F : ClrFacts P C fn t e) {np : Nat} : CodeOk P C np (.region 11 (rops (bodyOf fn) 11) false) (clrGiven e c) := by
  intro O0 w0 S0 m0 v x a w S m hG h Q hQ
  obtain ⟨⟨_, i⟩, l, z, _⟩ := v
  have hG : clrG e c (((), i), (l, (z, ()))) = some x := hG
  unfold clrG at hG
  obtain ⟨hc, hG⟩ := chk_some hG
  simp only [Bool.and_eq_true, decide_eq_true_eq] at hc
  obtain ⟨c1, c2⟩ := hc
  obtain ⟨i, rfl⟩ : ∃ n : Nat, i = n := ⟨Int.toNat i, (Int.toNat_of_nonneg c1).symm⟩
  have c2 : i < l.length := by have : (i : Int) < ((List.length l : Nat) : Int) := c2; omega
  obtain ⟨u, hu, hv, _⟩ := repV_row (i := 0) (h.rel.env 0)
  have hi := repV_int (k := .i64) (n := i) (h.rel.env 5)
  have hs : (fillSt (clrS e c) (((), (i : Int)), (l, (z, ())))).sto 0 = some (.row e false l) := rfl
  obtain ⟨u', hu', hobj⟩ := h.rel.sto 0 _ hs
  rw [hu] at hu'; cases hu'
  obtain ⟨A, cap, g0, g1, g2, g3, g4, g5, g6⟩ := hobj
  obtain ⟨ad, hA⟩ : ∃ ad, A = some ad := by
    cases hA : A with
    | none => have := g3 hA; omega
    | some ad => exact ⟨ad, rfl⟩
  subst hA
  have had := g4 ad rfl (by omega)
  subst had
  rw [g0] at hv
  have hT := hC.ty _ _ F.ht
  obtain ⟨te, ht1, ht2⟩ := hT.desc
  have hE := hC.ty _ _ ht2
  have ds := F.d
  simp only [List.cons.injEq, and_true] at ds
  have gs := F.g
  simp only [List.cons.injEq, and_true] at gs
  have hat : ∀ j, (rops (bodyOf fn) 11)[j]? = [rgD fn 11 0, rgD fn 11 1, rgD fn 11 2, rgD fn 11 3][j]? := fun j => by rw [← Array.getElem?_toList, F.r]
  have h38 : 38 < a.tmps.size := by rw [h.tm.1]; exact F.h38
  refine wp_region ?_
  rw [show (rops (bodyOf fn) 11).size = 4 by rw [← Array.length_toList, F.r]; rfl, show List.range 4 = [0, 1, 2, 3] from rfl]
  -- the two moves
  refine wpOps_cons (hat 0) gs.1 (wp_value (w' := w) (v := .slice (some ⟨u.b, u.o, none⟩) l.length cap) ?_ ?_)
  · have : a.eval (.tmp 0) = .slice (some ⟨u.b, u.o, none⟩) l.length cap := hv
    simp [execOp, F.o0, this]
  refine wpOps_cons (hat 1) gs.2.1 (wp_value (w' := w) (v := .int .i64 i) ?_ ?_)
  · have : (a.put (rgD fn 11 0).dst (.slice (some ⟨u.b, u.o, none⟩) l.length cap)).eval (.tmp 5) = .int .i64 i := by
      rw [ds.1]
      have h5 : a.tmps.getD 5 undef = .int .i64 i := hi
      simp only [Array.getD_eq_getD_getElem?] at h5
      simp [Act.put, Act.eval, h5]
    simp [execOp, F.o1, this]
  rw [ds.1, ds.2.1]
  -- the rest
  have e36 : ((a.put (some 36) (.slice (some ⟨u.b, u.o, none⟩) l.length cap)).put (some 37) (.int .i64 i)).eval (.tmp 36) = .slice (some ⟨u.b, u.o, none⟩) l.length cap := by
    simp [Act.put, Act.eval, show 36 < a.tmps.size by omega]
  have e37 : ((a.put (some 36) (.slice (some ⟨u.b, u.o, none⟩) l.length cap)).put (some 37) (.int .i64 i)).eval (.tmp 37) = .int .i64 i := by
    simp [Act.put, Act.eval, show 37 < a.tmps.size by omega]
  have hcut : (Instr.sliceBounds true l.length cap (some (.int .i64 i)) none none).run P w = .ok (i, l.length, cap) w := by
    simp [Instr.sliceBounds, Sem.run_bind, run_bound (P := P) (w := w) (k := .i64) (i := (i : Int)) (y := l.length) (by omega) (by omega)]
  have hsl := run_slice_row (w := w) hT hC.ty (A := some ⟨u.b, u.o, none⟩) hcut
  rw [if_neg (by omega)] at hsl
  refine wpOps_cons (hat 2) gs.2.2.1 (wp_value (w' := w) (v := .slice (some ⟨u.b, u.o + i * e.size, none⟩) (l.length - i) (cap - i)) ?_ ?_)
  · simp [execOp, F.o2, e36, e37, hsl, Sem.run_bind, Addr.add_lit]
  rw [ds.2.2.1]
  have hsz1 := mul_sz i l.length e.size (by omega)
  have hsz3 := mul_sz l.length cap e.size g1
  have hzsz : (zcells e).toArray.size = e.size := by simp [zcells_length]
  have hkz : (l.length - i) * e.size = l.length * e.size - i * e.size := Nat.sub_mul ..
  have hown : ∀ y, u.o ≤ y → y < u.o + cap * e.size → (w.cell? ⟨u.b, y, none⟩).isSome = true ∧ w.frozen? ⟨u.b, y, none⟩ = false := fun y q1 q2 => g6 y ((own_all g0).2 ⟨rfl, q1, q2⟩)
  have hzc : (shutV e.isAgg (zcells e)).cells = (zcells e).toArray := cells_of_shut (shut_of (zcells_length e)) (zcells_one e)
  have hclr := run_clear (P := P) (t := t) (te := te) (ty := (rgD fn 11 3).type) ht1 (fun w => hE.run_zero) (by rw [hzc]; exact zcells_one e) u.b (u.o + i * e.size) (l.length - i) (cap - i) (by omega) w
      (fun q hq => by rw [hzc, hzsz, hkz] at hq; exact (hown _ (by omega) (by omega)).1) (fun q hq => by rw [hzc, hzsz, hkz] at hq; exact (hown _ (by omega) (by omega)).2)
  rw [hzc] at hclr
  obtain ⟨W, hW⟩ : ∃ W, W = w.setCells u.b (u.o + i * e.size) (Builtin.zeroCells (zcells e).toArray (l.length - i)).toList := ⟨_, rfl⟩
  rw [← hW] at hclr
  have hzf : (Builtin.zeroCells (zcells e).toArray (l.length - i)).toList = (List.replicate (l.length - i) (zcells e)).flatten := made_flat (zcells e).toArray (l.length - i)
  have hzl : (Builtin.zeroCells (zcells e).toArray (l.length - i)).toList.length = l.length * e.size - i * e.size := by rw [zc_len, hzsz, hkz]
  refine wpOps_cons (hat 3) gs.2.2.2 (wp_value (w' := W) (v := .tuple #[]) ?_ ?_)
  · have e38 : (((a.put (some 36) (.slice (some ⟨u.b, u.o, none⟩) l.length cap)).put (some 37) (.int .i64 i)).put (some 38) (.slice (some ⟨u.b, u.o + i * e.size, none⟩) (l.length - i) (cap - i))).eval (.tmp 38) = .slice (some ⟨u.b, u.o + i * e.size, none⟩) (l.length - i) (cap - i) := by
      simp [Act.put, Act.eval, h38]
    simp [execOp, F.o3, resolve, Sem.run_bind, invoke, builtin, e38, hclr]
  rw [ds.2.2.2]
  have hTo : Touch (fun b y => b = u.b ∧ u.o ≤ y ∧ y < u.o + cap * e.size) w W := by
    rw [hW]
    exact (Touch.setCells w u.b (u.o + i * e.size) _).mono fun b y ⟨q1, q2, q3⟩ => ⟨q1, by omega, by rw [hzl] at q3; omega⟩
  have hrepz : RepL (Rep w S e) (List.replicate (l.length - i) (zeroE e)) (Builtin.zeroCells (zcells e).toArray (l.length - i)).toList := by rw [hzf]; exact RepL.replicate (zeroE_ok (K.data_of_flat F.hfl)) _
  have hth : w.there u.b (u.o + i * e.size) (Builtin.zeroCells (zcells e).toArray (l.length - i)).toList.length := fun q hq => by
    rw [hzl] at hq
    exact hown (u.o + i * e.size + q) (by omega) (by omega)
  have hlen2 : (l.take i ++ List.replicate (l.length - i) (zeroE e)).length = l.length := by rw [List.length_append, List.length_take, List.length_replicate, Nat.min_eq_left (by omega)]; omega
  have hstep := h.rel.toStoRel.turnRow (id := 0) (l2 := l.take i ++ List.replicate (l.length - i) (zeroE e)) (W := W) hs hu g0 hTo hlen2 (fun k y hy => by
    by_cases hki : k < i
    · rw [List.getElem?_append_left (by rw [List.length_take]; omega), List.getElem?_take_of_lt hki] at hy
      obtain ⟨cs, q1, q2, q3, _⟩ := g5 k y hy
      have hm := mul_sz (k + 1) i e.size hki
      rw [Nat.add_mul, Nat.one_mul] at hm
      refine ⟨cs, q1, ?_, q3⟩
      rw [hW]
      refine World.rangeAt_setCells_apart q2 _ _ _ (.inr (.inl ?_)); omega
    · rw [List.getElem?_append_right (by rw [List.length_take]; omega), List.length_take, Nat.min_eq_left (by omega)] at hy
      have hkl := (List.getElem?_eq_some_iff.1 hy).1
      obtain ⟨q1, q2⟩ := RepL.get (n := e.size) (fun _ _ h => Rep.length h) hrepz hy
      have hr := rangeAt_sub (World.rangeAt_setCells_same w u.b (u.o + i * e.size) _ hth) ((k - i) * e.size) e.size
      have eo : u.o + i * e.size + (k - i) * e.size = u.o + k * e.size := by
        have : i * e.size + (k - i) * e.size = k * e.size := by rw [← Nat.add_mul]; congr 1; omega
        omega
      rw [eo, ← hW] at hr
      exact ⟨_, Rep.length q1, hr, q1⟩) (fun y q1 q2 => by
    obtain ⟨p1, p2⟩ := hown y q1 q2
    rw [hW]
    exact ⟨World.isSome_setCells _ _ _ _ _ p1, by rw [World.frozen?_setCells]; exact p2⟩)
  obtain ⟨k4, k5, k6⟩ := hstep
  have hG : some ((((), (i : Int)), (l.take i ++ List.replicate (l.length - i) (zeroE e), (z, ()))) : (Unit × Int) × (List (El e) × El c × Unit)) = some x := hG
  cases hG
  have hsto : (fun k => bif Nat.beq k 0 then some (Obj.row e false (l.take i ++ List.replicate (l.length - i) (zeroE e))) else (fillSt (clrS e c) (((), (i : Int)), (l, (z, ())))).sto k) = (fillSt (clrS e c) (((), (i : Int)), (l.take i ++ List.replicate (l.length - i) (zeroE e), (z, ())))).sto := by
    funext k
    match k with
    | 0 => rfl
    | 1 => rfl
    | n + 2 => rfl
  have k4 : StoRel (fun k => bif Nat.beq k 0 then some (Obj.row e false (l.take i ++ List.replicate (l.length - i) (zeroE e))) else (fillSt (clrS e c) (((), (i : Int)), (l, (z, ())))).sto k) W S m := k4
  have k6 : Ext (OwnSt (fillSt (clrS e c) (((), (i : Int)), (l, (z, ())))).sto m) w S m W S m (OwnSt (fun k => bif Nat.beq k 0 then some (Obj.row e false (l.take i ++ List.replicate (l.length - i) (zeroE e))) else (fillSt (clrS e c) (((), (i : Int)), (l, (z, ())))).sto k) m) := k6
  rw [hsto] at k4 k6
  have henv0 : ∀ y, RepV W S m ((fillSt (clrS e c) (((), (i : Int)), (l, (z, ())))).env y) (a.tmps.getD y undef) := fun y => (h.rel.env y).keep k5 fun _ _ q => q
  have hp : ∀ {b : Act} {y : Nat} {v : Value}, (b.put (some y) v).tmps.size = b.tmps.size := fun {b y v} => by simp [Act.put]
  have henv1 := env_put (a := a) henv0 (d := some 36) (t := .any 0) (v := .slice (some ⟨u.b, u.o, none⟩) l.length cap) (.inl rfl) (fun q e => by have e := Option.some.inj e; subst e; exact Nat.lt_trans (by decide) h38)
  have henv2 := env_put henv1 (d := some 37) (t := .any 0) (v := .int .i64 i) (.inl rfl) (fun q e => by have e := Option.some.inj e; subst e; rw [hp]; exact Nat.lt_trans (by decide) h38)
  have henv := env_put henv2 (d := some 38) (t := .any 0) (v := .slice (some ⟨u.b, u.o + i * e.size, none⟩) (l.length - i) (cap - i)) (.inl rfl) (fun q e => by have e := Option.some.inj e; subst e; rw [hp, hp]; exact h38)
  refine hQ .normal _ _ W S m (fun R κ => rfl) (h.step (s' := fillSt (clrS e c) (((), (i : Int)), (l.take i ++ List.replicate (l.length - i) (zeroE e), (z, ())))) ⟨k4, fun y => ?_, h.rel.fresh, h.rel.top⟩ ((((h.tm.put _ _).put _ _).put _ _).put _ _) k6)
  have q : RepV W S m (bif Nat.beq y 38 then .any 0 else bif Nat.beq y 37 then .any 0 else bif Nat.beq y 36 then .any 0 else (fillSt (clrS e c) (((), (i : Int)), (l, (z, ())))).env y) _ := henv y
  have hb : ∀ k, y ≠ k → Nat.beq y k = false := fun k hk => by cases hq : Nat.beq y k with
    | false => rfl
    | true => exact absurd (Nat.eq_of_beq_eq_true hq) hk
  by_cases y1 : y = 36
  · subst y1; exact .inl rfl
  by_cases y2 : y = 37
  · subst y2; exact .inl rfl
  by_cases y3 : y = 38
  · subst y3; exact .inl rfl
  rw [hb _ y1, hb _ y2, hb _ y3] at q
  simp only [cond_false] at q
  exact q
end
end Go.Proofs.D
