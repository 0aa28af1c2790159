/- append. -/
import Derived.Test.YtmmhjcimijfipaaGreatDCut
set_option linter.unusedVariables false
set_option linter.unusedSimpArgs false
namespace Go.Proofs.D
open Go.RowKit

section
variable {P : Program} {C : Ctx} {s : St} {a : Act} {w w' : World} {S S' : Cells} {m m' : Nat → Option MB} {R : Type} {κ : T → Ups → Option R} {r : R} {o : Oper} {σ σ0 : Nat → Option Obj}

theorem RepL.append {α : Type} {Q : α → List Value → Prop} : ∀ {l k : List α} {c d : List Value}, RepL Q l c → RepL Q k d → RepL Q (l ++ k) (c ++ d)
  | [], k, c, d, h, h' => by cases h; exact h'
  | x :: l, k, _, d, ⟨c1, c2, e, h1, h2⟩, h' => ⟨c1, c2 ++ d, by rw [e, List.append_assoc], h1, RepL.append h2 h'⟩

/-- What is appended: the value, its cells. -/
theorem src_ok {e : K} {tx te : TypeId} {t : T} {v : Value} {x : List (El e)} {u : Ups} (hr : StoRel σ w S m) (ht : P.underlying tx = some (.slice te)) (ha : t.isAny = false) (hv : RepV w S m t v)
    (he : freeze σ (.slice e) t = some (x, u)) : ∃ news, RepL (Rep w S e) x news ∧ Src P e.size tx v x.length news w := by
  have fin : ∀ {A : Option Addr} {cap : Nat} {news : List Value}, news.length = x.length * e.size → RepL (Rep w S e) x news → (A = none → x = []) → (∀ ad, A = some ad → ∀ j u, news[j]? = some u → w.cell? (ad.add j) = some u) →
      v = .slice A x.length cap → ∃ news, RepL (Rep w S e) x news ∧ Src P e.size tx v x.length news w := by
    intro A cap news h1 h2 h3 h4 h5
    have hone := RepL.one (fun _ _ h => Rep.one h) h2
    cases A with
    | none =>
      have := h3 rfl; subst this
      cases h2
      subst h5
      exact ⟨[], rfl, Src.ofNil w ht cap⟩
    | some ad =>
      subst h5
      exact ⟨news, h2, Src.ofSlice w ht ad x.length cap news h1 (h4 ad rfl) hone⟩
  match t, ha, hv, he with
  | .val c' y, _, hv, he =>
    have he' : (castE c' (.slice e) y).map (fun y => (y, ([] : Ups))) = some (x, u) := he
    obtain ⟨z, hz, e1⟩ := Option.map_eq_some_iff.1 he'
    cases e1
    obtain ⟨ee, hz⟩ := castE_some hz
    subst ee
    have hz : y = x := hz
    subst hz
    obtain ⟨A, cap, e1, hcap, hrow⟩ := repV_slice hv
    simp only [List.cons.injEq, and_true] at e1
    cases hl : y[0]? with
    | none =>
      have hx : y = [] := by
        have := List.getElem?_eq_none_iff.1 hl
        exact List.eq_nil_of_length_eq_zero (by omega)
      subst hx
      exact fin (news := []) (by simp) rfl (fun _ => rfl) (fun ad _ j u h => by simp at h) e1
    | some y0 =>
      obtain ⟨b, off, cs, hA, _⟩ := hrow 0 y0 hl
      have hf : ∀ i z, y[i]? = some z → ∃ cs, cs.length = e.size ∧ w.rangeAt b (off + i * e.size) cs ∧ Rep w S e z cs := fun i z hy => by
        obtain ⟨b', off', cs', hA', k1, k2, k3⟩ := hrow i z hy
        rw [hA] at hA'; cases hA'
        exact ⟨cs', k1, k2.1, k3⟩
      obtain ⟨cells, h1, h2, h3⟩ := flat_cells hf
      exact fin h1 h3 (fun h => by rw [hA] at h; cases h) (fun ad had j u hj => by rw [hA] at had; cases had; rw [Addr.add_mid]; exact h2 j u hj) e1
  | .nils e', _, hv, he =>
    simp only [freeze, Option.some.injEq, Prod.mk.injEq] at he
    obtain ⟨e1, _⟩ := he
    subst e1
    obtain ⟨cs, h1, h2⟩ := of_repV rfl hv
    simp only [RepC] at h1; subst h1
    simp [Shut, T.isAgg] at h2
    exact fin (A := none) (cap := 0) (news := []) (by simp) rfl (fun _ => rfl) (fun ad h => by cases h) h2.symm
  | .row id, _, hv, he =>
    simp only [freeze] at he
    split at he
    case h_2 => cases he
    rename_i e' sh l hs
    obtain ⟨z, hz, e1⟩ := Option.map_eq_some_iff.1 he
    cases e1
    obtain ⟨ee, hz⟩ := castE_some hz
    cases ee
    have hz : l = x := hz
    subst hz
    obtain ⟨u', hu, e2, _⟩ := repV_row hv
    obtain ⟨u2, q1, q2⟩ := hr.sto id _ hs
    rw [hu] at q1; cases q1
    obtain ⟨cells, h1, h2, h3⟩ := row_cells q2
    obtain ⟨A, cap, g0, g1, g2, g3, g4, _⟩ := q2
    rw [g0] at e2
    refine fin h1 h3 (fun h => ?_) (fun ad had j u hj => ?_) e2
    · have := g3 h; exact List.eq_nil_of_length_eq_zero (by omega)
    · have hjl := (List.getElem?_eq_some_iff.1 hj).1
      have hpos : 0 < l.length := by
        rcases Nat.eq_zero_or_pos l.length with h0 | h0
        · rw [h1, h0] at hjl; omega
        · exact h0
      have := g4 ad had (by omega)
      subst this
      rw [Addr.add_mid]; exact h2 j u hj

/-- A row goes. -/
theorem StoRel.kill (h : StoRel σ w S m) (id : Nat) : Step1 σ w S m (fun i => bif Nat.beq i id then none else σ i) w S m := by
  obtain ⟨k1, k2, k3⟩ := h.change (J := fun i => i = id) (F := fun _ _ => False) (σ' := fun i => bif Nat.beq i id then none else σ i) (m' := m) (S' := S)
    (fun i hi => upd_ne hi) (fun _ _ q => q) (Touch.refl _ w) (fun b x hF _ => hF.elim) (fun _ _ q => q) (fun _ _ q => .inl q)
    (fun i o hi ho => by subst hi; rw [upd_eq] at ho; cases ho)
    (fun i j o p u v hi hj hij => absurd (hi.trans hj.symm) hij)
  exact ⟨k1, k2, k3⟩

/-- A row with room gets longer. -/
theorem StoRel.extend (h : StoRel σ w S m) {id id2 : Nat} (hid : m id2 = none) {u : MB} {e : K} {sh : Bool} {l x : List (El e)} {A : Option Addr} {cap : Nat} {news : List Value} (hs : σ id = some (.row e sh l)) (hu : m id = some u)
    (hv : u.hv = .slice A l.length cap) (hroom : l.length + x.length ≤ cap) (hrep : RepL (Rep w S e) x news) :
    ∃ u2 S', u2.hv = .slice A (l.length + x.length) cap ∧ Step1 σ w S m (upds [(id, none), (id2, some (.row e sh (l ++ x)))] σ) (w.setCells u.b (u.o + l.length * e.size) news) S' (putM1 m id2 u2) ∧
      w.there u.b (u.o + l.length * e.size) news.length := by
  obtain ⟨u', h1, h2⟩ := h.sto id _ hs
  rw [hu] at h1; cases h1
  have hobj := h2
  obtain ⟨A', cap', g0, g1, g2, g3, g4, g5, g6⟩ := h2
  rw [hv] at g0; cases g0
  have hnl := RepL.length (n := e.size) (fun _ _ h => Rep.length h) hrep
  have hne : id ≠ id2 := fun q => by rw [q, hid] at hu; cases hu
  have hcapm : l.length * e.size + x.length * e.size ≤ cap * e.size := by rw [← Nat.add_mul]; exact Nat.mul_le_mul_right _ hroom
  have hown : ∀ b y, (b = u.b ∧ u.o + l.length * e.size ≤ y ∧ y < u.o + l.length * e.size + news.length) → Own u (.row e sh l) b y := by
    rintro b y ⟨q1, q2, q3⟩
    cases hA : A with
    | none => have := g3 hA; rw [this] at hcapm; omega
    | some ad => exact ⟨l.length, cap, ad, by rw [hv, hA], q1, by omega, by omega, fun _ => q2⟩
  have hT := Touch.setCells w u.b (u.o + l.length * e.size) news
  let S' : Cells := fun b y => S b y ∨ (sh = true ∧ b = u.b ∧ u.o + l.length * e.size ≤ y ∧ y < u.o + l.length * e.size + news.length)
  have hk : Keeps w S (w.setCells u.b (u.o + l.length * e.size) news) S' := hT.keeps (fun b y hS hF => h.stab id _ u hs hu b y hS (hown b y hF)) fun _ _ q => .inl q
  have hth : w.there u.b (u.o + l.length * e.size) news.length := fun j hj => g6 _ (hown _ _ ⟨rfl, by omega, by omega⟩)
  have hOJ : OwnJ (fun i => i = id ∨ i = id2) σ m = Own u (.row e sh l) := by
    funext b y; apply propext; constructor
    · rintro ⟨i, o, u', ei, h5, h6, h7⟩
      rcases ei with ei | ei
      · subst ei; rw [hs] at h5; cases h5; rw [hu] at h6; cases h6; exact h7
      · subst ei; rw [hid] at h6; cases h6
    · exact fun q => ⟨id, _, u, .inl rfl, hs, hu, q⟩
  let u2 : MB := ⟨.slice A (l.length + x.length) cap, u.b, u.o, .arr 0 e⟩
  have hOwn : ∀ b y, Own u2 (.row e sh (l ++ x)) b y → Own u (.row e sh l) b y ∧ ¬ S' b y := by
    rintro b y ⟨n, cap', a', q1, q2, q3, q4, q5⟩
    cases q1
    have hold : Own u (.row e sh l) b y := ⟨l.length, cap, a', hv, q2, q3, q4, fun q => by
      have := q5 q; simp only [List.length_append, Nat.add_mul] at this; have t : u2.o = u.o := rfl; omega⟩
    refine ⟨hold, ?_⟩
    rintro (q | ⟨q, _, _, q8⟩)
    · exact h.stab id _ u hs hu b y q hold
    · have := q5 q; simp only [List.length_append, Nat.add_mul] at this; have t : u2.o = u.o := rfl; omega
  have e1 : ∀ i, upds [(id, none), (id2, some (.row e sh (l ++ x)))] σ i = (bif Nat.beq i id2 then some (.row e sh (l ++ x)) else bif Nat.beq i id then none else σ i) := fun i => rfl
  refine ⟨u2, S', rfl, ?_, hth⟩
  obtain ⟨k1, k2, k3⟩ := h.change (J := fun i => i = id ∨ i = id2) (σ' := upds [(id, none), (id2, some (.row e sh (l ++ x)))] σ) (m' := putM1 m id2 u2) (S' := S')
    (fun i hi => by rw [e1, upd_ne (fun q => hi (.inr q)), upd_ne (fun q => hi (.inl q))]) (putM1_old hid) hT (fun b y hF _ => by rw [hOJ]; exact hown b y hF) (fun _ _ q => .inl q)
    (fun b y q => by
      rcases q with q | ⟨_, q⟩
      · exact .inl q
      · exact .inr (.inr (by rw [hOJ]; exact hown b y q)))
    (fun i o hi ho => by
      rw [e1] at ho
      by_cases hi2 : i = id2
      · subst hi2
        rw [upd_eq] at ho; cases ho
        refine ⟨u2, putM1_new, ⟨A, cap, by simp [u2], by simpa using hroom, rfl, g3, g4, fun i y hy => ?_, fun y hy => ?_⟩, fun b y hy => ⟨.inr (by rw [hOJ]; exact (hOwn b y hy).1), (hOwn b y hy).2⟩⟩
        · by_cases hlt : i < l.length
          · rw [List.getElem?_append_left hlt] at hy
            obtain ⟨cs, q1, q2, q3, q4⟩ := g5 i y hy
            have : i * e.size + e.size ≤ l.length * e.size := by rw [← Nat.succ_mul]; exact Nat.mul_le_mul_right _ hlt
            refine ⟨cs, q1, World.rangeAt_setCells_apart q2 _ _ _ (.inr (.inl ?_)), q3.keep hk, fun q j hj => .inl (q4 q j hj)⟩
            show u.o + i * e.size + cs.length ≤ _
            omega
          · rw [List.getElem?_append_right (by omega)] at hy
            obtain ⟨q1, q2⟩ := RepL.get (n := e.size) (fun _ _ h => Rep.length h) hrep hy
            have hr := rangeAt_sub (World.rangeAt_setCells_same w u.b (u.o + l.length * e.size) news hth) ((i - l.length) * e.size) e.size
            have eo : u.o + l.length * e.size + (i - l.length) * e.size = u2.o + i * e.size := by
              have : l.length * e.size + (i - l.length) * e.size = i * e.size := by rw [← Nat.add_mul]; congr 1; omega
              show _ = u.o + i * e.size
              omega
            rw [eo] at hr
            refine ⟨_, Rep.length q1, hr, q1.keep hk, fun q j hj => .inr ⟨q, rfl, ?_, ?_⟩⟩ <;> (rw [← eo]; omega)
        · obtain ⟨q1, q2⟩ := g6 y (hOwn _ y hy).1
          exact ⟨World.isSome_setCells _ _ _ _ _ q1, by rw [World.frozen?_setCells]; exact q2⟩
      · rw [upd_ne hi2] at ho
        rcases hi with hi | hi
        · subst hi; rw [upd_eq] at ho; cases ho
        · exact absurd hi hi2)
    (fun i j o p u v hi hj hij ho hp => by
      exfalso
      rw [e1] at ho hp
      rcases hi with hi | hi
      · subst hi
        rw [upd_ne hne, upd_eq] at ho; cases ho
      · rcases hj with hj | hj
        · subst hj; rw [upd_ne hne, upd_eq] at hp; cases hp
        · exact hij (hi.trans hj.symm))
  exact ⟨k1, k2, k3⟩

/-- A nil row. -/
theorem StoRel.newNil (h : StoRel σ w S m) {id : Nat} (hid : m id = none) (e : K) (sh : Bool) : Step1 σ w S m (fun i => bif Nat.beq i id then some (.row e sh []) else σ i) w S (putM1 m id ⟨.slice none 0 0, 0, 0, .arr 0 e⟩) := by
  refine h.new hid (Touch.refl _ w) (fun _ _ q => q) (fun _ _ q => .inl q) ⟨none, 0, rfl, Nat.le_refl _, rfl, fun _ => rfl, fun a q => (by cases q), fun i x hx => by simp at hx, ?_⟩ ?_
  · rintro x ⟨n, cap', a', q1, _⟩; cases q1
  · rintro b x ⟨n, cap', a', q1, _⟩; cases q1

theorem append_types {ats : Array TypeId} {t tx ty : TypeId} {args : Array Value} (h0 : ats[0]? = some t) (h1 : ats[1]? = some tx) : Builtin.append_ ats ty args = Builtin.append_ #[t, tx] ty args := by
  simp [Builtin.append_, h0, h1]

theorem run_append_empty {t tx ty te te' : TypeId} {i : TypeInfo} (ht : P.underlying t = some (.slice te)) (hi : P.info? te = some i) (hx : P.underlying tx = some (.slice te')) {x : Value} (hs : Src P i.size tx x 0 [] w) {base : Option Addr} {n cap : Nat} (hn : n ≤ cap) :
    (Builtin.append_ #[t, tx] ty #[.slice base n cap, x]).run P w = .ok (.slice base n cap) w := by
  cases base <;> simp [Builtin.append_, run_underlying ht, run_underlying hx, sizeOf, typeInfo, hi, hs.len, hn, hs.cells, storeCells]

theorem rm_bounds (n b : Nat) (h : n ≤ 4294967296) (hb : b ≤ 32768) : n * b ≤ 140737488355328 := by
  have := Nat.mul_le_mul h hb; omega

theorem room_some {n : Nat} {x : Option R} {r : R} (h : room n x = some r) : n ≤ 4294967296 ∧ x = some r := by
  obtain ⟨h1, h2⟩ := bif_some h
  exact ⟨Nat.le_of_ble_eq_true h1, h2⟩

theorem zc_len (z : Array Value) (n : Nat) : (Builtin.zeroCells z n).toList.length = n * z.size := by rw [Array.length_toList, size_zeroCells]

theorem ok_append (hC : CtxOk P C) (hr : Rel s a.tmps w S m) {c : Call} {x y : Operand} (ho : o.op = .call c) (hb : c.callee = .builtin .append) (ha : c.args.toList = [x, y])
    {d : Nat} (hd : (match o.dst with | some d => d | none => 0) = d) (h1 : d < 99000) (h2 : s.done d = false) (he : evalOp C o s.env s.sto κ = some r) : Ok P s a w S m o κ r := by
  subst hd
  simp only [evalOp, ho, hb, ha] at he
  have ea : c.args = #[x, y] := by apply Array.ext'; simpa using ha
  have hmk : makes o.op = true := by simp only [ho, makes, hb]
  split at he
  case h_2 => cases he
  rename_i e ht
  obtain ⟨hb2, he1⟩ := bif_some he
  clear he
  simp only [Bool.and_eq_true] at hb2
  obtain ⟨hb3, hb4⟩ := hb2
  have ht1 : tyArg C c 1 = some (.slice e) := by
    unfold isK at hb3; split at hb3
    · rename_i d hd; simp at hb3; subst hb3; exact hd
    · cases hb3
  obtain ⟨t0, q0, q1⟩ := tyArg_some ht
  obtain ⟨t1, q2, q3⟩ := tyArg_some ht1
  obtain ⟨te, u0, u1⟩ := (hC.ty _ _ q1).desc
  obtain ⟨te', u2, u3⟩ := (hC.ty _ _ q3).desc
  have hE := hC.ty _ _ u1
  obtain ⟨i, i1, i2, i3, i4⟩ := hE.info
  have hzc : (shutV e.isAgg (zcells e)).cells = (zcells e).toArray := cells_of_shut (shut_of (zcells_length e)) (zcells_one e)
  split at he1
  case h_2 => cases he1
  rename_i tv hy
  split at he1
  case h_2 => cases he1
  rename_i mm uu hfz
  obtain ⟨news, n1, n2⟩ := src_ok hr.toStoRel u2 (opnd_any hy) (opnd_ok hr hy) hfz
  rw [← i2] at n2
  have hnl := RepL.length (n := e.size) (fun _ _ h => Rep.length h) n1
  have run : ∀ {v : Value} {w' : World}, (Builtin.append_ #[t0, t1] o.type #[a.eval x, a.eval y]).run P w = .ok v w' → (execOp a.eval o).run P w = .ok (.value v) w' := fun h => by
    rw [← append_types q0 q2] at h
    simp [execOp, ho, resolve, hb, ea, Sem.run_bind, invoke, builtin, h]
  have growing : ∀ {base : Option Addr} {n cap : Nat} {olds : List Value}, (Builtin.firstCells i.size n (.slice base n cap)).run P w.drew = .ok olds.toArray w.drew → cap < n + mm.length → n + mm.length ≤ 4294967296 → a.eval x = .slice base n cap →
      (execOp a.eval o).run P w = .ok (.value (.slice (some ⟨w.heap.size, 0, none⟩) (n + mm.length) (grownCap w (n + mm.length) cap te))) (w.drew.alloc (.cells ((olds ++ news) ++ (Builtin.zeroCells (zcells e).toArray (grownCap w (n + mm.length) cap te - (n + mm.length))).toList).toArray te)) := by
    intro base n cap olds hold hg hroom hx
    have hb := rm_bounds (n + mm.length) i.bytes hroom i3
    have := run_append_grow_src (P := P) w t0 t1 o.type te i _ u0 i1 i4 base n cap olds hold (a.eval y) mm.length news n2 hg (by omega) (growslice_fits hg hb)
    rw [hzc] at this
    have e0 : ((olds ++ news) ++ (Builtin.zeroCells (zcells e).toArray (grownCap w (n + mm.length) cap te - (n + mm.length))).toList).toArray = (olds ++ news).toArray ++ Builtin.zeroCells (zcells e).toArray (grownCap w (n + mm.length) cap te - (n + mm.length)) := by
      apply Array.ext'; simp
    rw [e0]
    rw [← hx] at this
    exact run this
  split at he1
  case h_3 => cases he1
  · -- to nil
    rename_i e' hx
    obtain ⟨hrm, hk⟩ := room_some he1
    obtain ⟨cs, g1, g2⟩ := of_repV rfl (opnd_ok hr hx)
    simp only [RepC] at g1; subst g1
    simp [Shut, T.isAgg] at g2
    refine ⟨_, _, hk, fun next Q k => ?_⟩
    rw [hmk] at k
    cases hmm : mm with
    | nil =>
      subst hmm
      cases n1
      have st := hr.toStoRel.newNil (hr.free h1 h2) e false
      have hfin := After.of (ups := [(_, some _)]) (mk := true) hr st (repV_newRow _ _ _ _ _ _ _ _) (New.inv h1 rfl)
      refine wp_value (w' := w) (run ?_) (k _ _ hfin)
      rw [← g2]
      exact run_append_empty u0 i1 u2 n2 (Nat.le_refl 0)
    | cons z zs =>
      have hpos : 0 < mm.length := by rw [hmm]; simp
      have hrun := growing (base := none) (n := 0) (cap := 0) (olds := []) (run_firstCells_none w.drew i.size 0 0 0) (by omega) (by omega) g2.symm
      simp only [List.nil_append, Nat.zero_add] at hrun
      have hge := grownCap_ge w mm.length 0 te
      have st := hr.toStoRel.newRow (hr.free h1 h2) (Touch.drew _ w) rfl (extra := (Builtin.zeroCells (zcells e).toArray (grownCap w mm.length 0 te - mm.length)).toList) (cap := grownCap w mm.length 0 te) false te n1 (by
        rw [zc_len, hnl]; simp only [List.size_toArray, zcells_length]; rw [← Nat.add_mul]; congr 1; omega) hge
      have hfin := After.of (ups := [(_, some _)]) (mk := true) hr st (repV_newRow _ _ _ _ _ _ _ _) (New.inv h1 rfl)
      exact wp_value hrun (k _ _ hfin)
  · -- to a row
    rename_i id hx
    split at he1
    case h_2 => cases he1
    rename_i e' sh l' hs
    split at he1
    case h_2 => cases he1
    rename_i l hl
    obtain ⟨ee, hl⟩ := castE_some hl
    cases ee
    have hl : l' = l := hl
    subst hl
    obtain ⟨hrm, hk⟩ := room_some he1
    obtain ⟨u, hu, ev, _⟩ := repV_row (opnd_ok hr hx)
    have hobj := hr.obj hu hs
    obtain ⟨A, cap, g0, g1, g2, g3, g4, g5, g6⟩ := hobj
    rw [g0] at ev
    refine ⟨_, _, hk, fun next Q k => ?_⟩
    rw [hmk] at k
    by_cases hroom : l'.length + mm.length ≤ cap
    · obtain ⟨u2', S', w1, st, hth⟩ := hr.toStoRel.extend (hr.free h1 h2) hs hu g0 hroom n1
      have hfin := After.of (ups := [(_, none), (_, some _)]) (mk := true) hr st (repV_mkRow putM1_new w1) (New.inv h1 rfl)
      cases hmm : mm with
      | nil =>
        subst hmm
        cases n1
        refine wp_value (run ?_) (k _ _ hfin)
        rw [ev, w1]
        exact run_append_empty u0 i1 u2 n2 g1
      | cons z zs =>
        have hpos : 0 < mm.length := by rw [hmm]; simp
        refine wp_value (run ?_) (k _ _ hfin)
        cases hA : A with
        | none => have := g3 hA; omega
        | some ad =>
          have := g4 ad hA (by omega)
          subst this
          rw [ev, w1, hA, ← i2]
          have hth' := hth
          rw [← i2] at hth'
          exact run_append_room_src (P := P) w t0 t1 o.type te i u0 i1 u.b u.o l'.length cap (a.eval y) mm.length news n2 hroom (fun j hj => (hth' j hj).1) (fun j hj => (hth' j hj).2)
    · obtain ⟨cells, c1, c2, c3⟩ := row_cells (hr.obj hu hs)
      have k1 := hr.toStoRel.kill id
      have hge := grownCap_ge w (l'.length + mm.length) cap te
      have st := k1.rel.newRow (hr.free h1 h2) (Touch.drew _ w) rfl (extra := (Builtin.zeroCells (zcells e).toArray (grownCap w (l'.length + mm.length) cap te - (l'.length + mm.length))).toList) (cap := grownCap w (l'.length + mm.length) cap te) sh te (c3.append n1) (by
        rw [zc_len, List.length_append, hnl, c1]; simp only [List.size_toArray, zcells_length]; rw [← Nat.add_mul, ← Nat.add_mul]; congr 1; omega) (by simpa using hge)
      have hfin := After.of (ups := [(_, none), (_, some _)]) (mk := true) hr (k1.trans st) (repV_newRow _ _ _ _ _ _ _ _) (New.inv h1 rfl)
      have hold : (Builtin.firstCells i.size l'.length (.slice A l'.length cap)).run P w.drew = .ok cells.toArray w.drew := by
        cases hA : A with
        | none =>
          have h0 := g3 hA
          have hz : l'.length = 0 := by omega
          have : cells = [] := by apply List.eq_nil_of_length_eq_zero; rw [c1, hz]; simp
          subst this
          exact run_firstCells_none w.drew i.size l'.length l'.length cap
        | some ad =>
          refine run_firstCells_some w.drew i.size l'.length ad l'.length cap cells (by rw [c1, i2]) fun j v hj => ?_
          have hjl := (List.getElem?_eq_some_iff.1 hj).1
          have hpos : 0 < l'.length := by
            rcases Nat.eq_zero_or_pos l'.length with h0 | h0
            · rw [c1, h0] at hjl; omega
            · exact h0
          have := g4 ad hA (by omega)
          subst this
          rw [Addr.add_mid]
          exact c2 j v hj
      have hrun := growing hold (by omega) hrm ev
      rw [List.length_append] at hfin
      exact wp_value hrun (k _ _ hfin)
end
end Go.Proofs.D
