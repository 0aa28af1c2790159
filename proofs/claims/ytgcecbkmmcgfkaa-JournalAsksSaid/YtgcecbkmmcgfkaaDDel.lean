/- Rows of one's own that are turned in their place: slices.Delete. -/
import Derived.Test.YtgcecbkmmcgfkaaDScope
import Derived.KernelRfl
import Derived.WalkKit
import Derived.Deep.RegionLaw
import Derived.Deep.LoopGhost
import Derived.Shelf.RegionOpenPlain
import Derived.Lib.Walk
import Derived.Lib.SliceRun
set_option linter.unusedVariables false
set_option linter.unusedSimpArgs false
namespace Go.Proofs.D
open Go.RowKit

section
variable {P : Program} {C : Ctx} {w : World} {S : Cells} {m m' : Nat → Option MB} {σ : Nat → Option Obj}

theorem own_all {u : MB} {e : K} {l : List (El e)} {ad : Addr} {n cap : Nat} (hv : u.hv = .slice (some ad) n cap) {b y : Nat} : Own u (.row e false l) b y ↔ b = u.b ∧ u.o ≤ y ∧ y < u.o + cap * e.size := by
  constructor
  · rintro ⟨n', cap', a', q1, q2, q3, q4, _⟩
    rw [hv] at q1; cases q1
    exact ⟨q2, q3, q4⟩
  · rintro ⟨q1, q2, q3⟩
    exact ⟨n, cap, ad, hv, q1, q2, q3, fun q => by cases q⟩

/-- A row of one's own turns: it goes on under another number. -/
theorem StoRel.rewrite (h : StoRel σ w S m) {id id2 : Nat} (hid : m id2 = none) {u : MB} {e : K} {l l2 : List (El e)} {ad : Addr} {cap : Nat} (hs : σ id = some (.row e false l)) (hu : m id = some u) (hv : u.hv = .slice (some ad) l.length cap)
    {W : World} (hT : Touch (fun b y => b = u.b ∧ u.o ≤ y ∧ y < u.o + cap * e.size) w W) (hl2 : l2.length ≤ cap)
    (hrow : ∀ i x, l2[i]? = some x → ∃ cs, cs.length = e.size ∧ W.rangeAt u.b (u.o + i * e.size) cs ∧ Rep w S e x cs)
    (hlive : ∀ y, u.o ≤ y → y < u.o + cap * e.size → (W.cell? ⟨u.b, y, none⟩).isSome = true ∧ W.frozen? ⟨u.b, y, none⟩ = false) :
    Step1 σ w S m (upds [(id, none), (id2, some (.row e false l2))] σ) W S (putM1 m id2 ⟨.slice (some ad) l2.length cap, u.b, u.o, .arr 0 e⟩) := by
  obtain ⟨u', h1, h2⟩ := h.sto id _ hs
  rw [hu] at h1; cases h1
  have hobj := h2
  obtain ⟨A', cap', g0, g1, g2, g3, g4, g5, g6⟩ := h2
  rw [hv] at g0; cases g0
  have hne : id ≠ id2 := fun q => by rw [q, hid] at hu; cases hu
  have hk : Keeps w S W S := hT.keeps (fun b y hS hF => h.stab id _ u hs hu b y hS ((own_all hv).2 hF)) fun _ _ q => q
  have hOJ : OwnJ (fun i => i = id ∨ i = id2) σ m = Own u (.row e false l) := by
    funext b y; apply propext; constructor
    · rintro ⟨i, o, u', ei, h5, h6, h7⟩
      rcases ei with ei | ei
      · subst ei; rw [hs] at h5; cases h5; rw [hu] at h6; cases h6; exact h7
      · subst ei; rw [hid] at h6; cases h6
    · exact fun q => ⟨id, _, u, .inl rfl, hs, hu, q⟩
  let u2 : MB := ⟨.slice (some ad) l2.length cap, u.b, u.o, .arr 0 e⟩
  have hOwn : ∀ b y, Own u2 (.row e false l2) b y → Own u (.row e false l) b y := fun b y q => (own_all hv).2 ((own_all (u := u2) (ad := ad) (n := l2.length) (cap := cap) rfl).1 q)
  have e1 : ∀ i, upds [(id, none), (id2, some (.row e false l2))] σ i = (bif Nat.beq i id2 then some (.row e false l2) else bif Nat.beq i id then none else σ i) := fun i => rfl
  obtain ⟨k1, k2, k3⟩ := h.change (J := fun i => i = id ∨ i = id2) (F := fun b y => b = u.b ∧ u.o ≤ y ∧ y < u.o + cap * e.size) (σ' := upds [(id, none), (id2, some (.row e false l2))] σ) (m' := putM1 m id2 u2) (S' := S)
    (fun i hi => by rw [e1, upd_ne (fun q => hi (.inr q)), upd_ne (fun q => hi (.inl q))]) (putM1_old hid) hT (fun b y hF _ => by rw [hOJ]; exact (own_all hv).2 hF) (fun _ _ q => q)
    (fun b y q => .inl q)
    (fun i o hi ho => by
      rw [e1] at ho
      by_cases hi2 : i = id2
      · subst hi2
        rw [upd_eq] at ho; cases ho
        refine ⟨u2, putM1_new, ⟨some ad, cap, rfl, hl2, rfl, (fun q => by cases q), g4, fun k y hy => ?_, fun y hy => ?_⟩, fun b y hy => ⟨.inr (by rw [hOJ]; exact hOwn b y hy), fun q => h.stab id _ u hs hu b y q (hOwn b y hy)⟩⟩
        · obtain ⟨cs, q1, q2, q3⟩ := hrow k y hy
          exact ⟨cs, q1, q2, q3.keep hk, fun q => by cases q⟩
        · obtain ⟨_, q2, q3⟩ := (own_all (u := u2) (ad := ad) (n := l2.length) (cap := cap) rfl).1 hy
          exact hlive y q2 q3
      · rw [upd_ne hi2] at ho
        rcases hi with hi | hi
        · subst hi; rw [upd_eq] at ho; cases ho
        · exact absurd hi hi2)
    (fun i j o p u v hi hj hij ho hp => by
      exfalso
      rw [e1] at ho hp
      rcases hi with hi | hi
      · subst hi
        rw [upd_ne hne, upd_eq] at ho; cases ho
      · rcases hj with hj | hj
        · subst hj; rw [upd_ne hne, upd_eq] at hp; cases hp
        · exact hij (hi.trans hj.symm))
  exact ⟨k1, k2, k3⟩

/-! ### Cells that are cleared -/
theorem zeroCells_one {z : Array Value} (h : ∀ v ∈ z.toList, v.oneCell' = true) (n : Nat) : ∀ v ∈ (Builtin.zeroCells z n).toList, v.oneCell' = true := by
  intro v hv
  unfold Builtin.zeroCells at hv
  simp only [Array.toList_map, List.mem_map, Array.toList_range, List.mem_range] at hv
  obtain ⟨i, hi, e⟩ := hv
  have hz : 0 < z.size := by
    rcases Nat.eq_zero_or_pos z.size with q | q
    · rw [q] at hi; omega
    · exact q
  have hlt := Nat.mod_lt i hz
  subst e
  rw [getElem!_pos z _ hlt]
  exact h _ (Array.mem_toList_iff.2 (Array.getElem_mem hlt))
theorem run_clear {t te ty : TypeId} {z : Value} (ht : P.underlying t = some (.slice te)) (hv : ∀ w, (zeroValue te).run P w = .ok z w) (h1 : ∀ v ∈ z.cells.toList, v.oneCell' = true) (b o n c : Nat) (hn : 0 < n) (W : World)
    (hc : ∀ j, j < n * z.cells.size → (W.cell? ⟨b, o + j, none⟩).isSome = true) (hf : ∀ j, j < n * z.cells.size → W.frozen? ⟨b, o + j, none⟩ = false) :
    (Builtin.clear_ #[t] ty #[.slice (some ⟨b, o, none⟩) n c]).run P W = .ok (.tuple #[]) (W.setCells b o (Builtin.zeroCells z.cells n).toList) := by
  have hl : (Builtin.zeroCells z.cells n).toList.length = n * z.cells.size := by rw [Array.length_toList, size_zeroCells]
  have hst := run_storeCells_cells (P := P) b o (Builtin.zeroCells z.cells n).toList 0 W (fun j hj => by rw [Nat.add_zero]; exact hc j (by omega)) (fun j hj => by rw [Nat.add_zero]; exact hf j (by omega)) (zeroCells_one h1 n)
  simp only [Nat.add_zero] at hst
  obtain ⟨m, rfl⟩ : ∃ m, n = m + 1 := ⟨n - 1, by omega⟩
  simp [Builtin.clear_, run_underlying ht, hv, hst]

/-! ### slices.Delete -/
def delF {α : Type} (i j : Int) (l : List α) : Option (Unit × Unit × List α × Unit) := chk (decide (0 ≤ i) && decide (i < j) && decide (j ≤ (l.length : Int))) (some ((), ((), (l.take i.toNat ++ l.drop j.toNat, ()))))

/-- The function, as the program runs it. -/
def DelRun (P : Program) (f : FuncId) (sz : Nat) (zs : Array Value) (t : TypeId) : Prop :=
  ∀ (blk off cap n i j : Nat) (news : List Value) (w : World), i < j → j ≤ n → n ≤ cap → news.length = (n - j) * sz → (∀ k u, news[k]? = some u → w.cell? ⟨blk, off + j * sz + k, none⟩ = some u) → (∀ u ∈ news, u.oneCell' = true) →
    (∀ k, k < cap * sz → (w.cell? ⟨blk, off + k, none⟩).isSome = true ∧ w.frozen? ⟨blk, off + k, none⟩ = false) →
    (∀ ty W1, W1 = w.drew.setCells blk (off + i * sz) news → (Builtin.clear_ #[t] ty #[.slice (some ⟨blk, off + (i + (n - j)) * sz, none⟩) (n - (i + (n - j))) (cap - (i + (n - j)))]).run P W1 = .ok (.tuple #[]) (W1.setCells blk (off + (i + (n - j)) * sz) (Builtin.zeroCells zs (n - (i + (n - j)))).toList)) →
    Calls P f #[.slice (some ⟨blk, off, none⟩) n cap, .int .i64 i, .int .i64 j] w fun e w' => e = .returned (.slice (some ⟨blk, off, none⟩) (i + (n - j)) cap) ∧ w' = (w.drew.setCells blk (off + i * sz) news).setCells blk (off + (i + (n - j)) * sz) (Builtin.zeroCells zs (n - (i + (n - j)))).toList

theorem StoRel.only {o : Obj} {i : Nat} (h : StoRel σ w S m) (hi : σ i = some o) (ho : ∀ j, j ≠ i → σ j = none) (hcell : ∀ c fz t, o ≠ .cell c fz t) : StoRel σ w S (fun j => if j = i then m i else none) := by
  refine ⟨fun j p hj => ?_, fun j k p q u v hjk hj hk => ?_, fun j p u hj hu b x hS hO => ?_, h.live⟩
  · by_cases e : j = i
    · subst e
      obtain ⟨u, h1, h2⟩ := h.sto j p hj
      refine ⟨u, by simp [h1], ?_⟩
      rw [hi] at hj; cases hj
      cases o with
      | cell c fz t => exact absurd rfl (hcell c fz t)
      | row e sh l => exact h2
      | map k v es => exact h2
    · rw [ho j e] at hj; cases hj
  · by_cases e : j = i
    · by_cases e2 : k = i
      · exact absurd (e.trans e2.symm) hjk
      · rw [ho k e2] at hk; cases hk
    · rw [ho j e] at hj; cases hj
  · by_cases e : j = i
    · subst e
      simp only [if_true] at hu
      exact h.stab j p u hj hu b x hS hO
    · rw [ho j e] at hj; cases hj

theorem mul_sz (a b s : Nat) (h : a ≤ b) : a * s ≤ b * s := Nat.mul_le_mul_right _ h

theorem del_sound {f : FuncId} {fn : Func} {t te : TypeId} {e : K} {ty : TypeId → Option K} (hf : P.funcs[f]? = some fn) (hname : (fn.name == "runtime.NumGoroutine") = false) (hbody : fn.body.isNone = false) (hty : TyOk P ty te e) (ht : P.underlying t = some (.slice te))
    (hrun : DelRun P f e.size (zcells e).toArray t) : Sound P f { args := .tc (.row 0) (.tc (.val (.int .i64)) (.tc (.val (.int .i64)) .tn)), objs := [.row e false], ret := .row 1, outs := [.gone, .row e false], F := fun x => delF x.1.2.1 x.1.2.2.1 x.2.1 } := by
  intro w S m x y vals hy hargs hrel hbig
  obtain ⟨⟨_, i, j, _⟩, l, _⟩ := x
  obtain ⟨v1, r1, e1, a1, ha⟩ := hargs
  obtain ⟨v2, r2, e2, a2, ha⟩ := ha
  obtain ⟨v3, r3, e3, a3, ha⟩ := ha
  have ha : r3 = [] := ha
  subst ha; subst e3; subst e2; subst e1
  have b2 := repV_int (k := .i64) (n := i) a2
  have b3 := repV_int (k := .i64) (n := j) a3
  subst b2; subst b3
  have hy : delF i j l = some y := hy
  unfold delF at hy
  obtain ⟨hc, hy⟩ := chk_some hy
  simp only [Bool.and_eq_true, decide_eq_true_eq] at hc
  obtain ⟨⟨c1, c2⟩, c3⟩ := hc
  cases hy
  obtain ⟨i, rfl⟩ : ∃ n : Nat, i = n := ⟨Int.toNat i, (Int.toNat_of_nonneg c1).symm⟩
  obtain ⟨j, rfl⟩ : ∃ n : Nat, j = n := ⟨Int.toNat j, (Int.toNat_of_nonneg (Int.le_of_lt (Int.lt_of_le_of_lt c1 c2))).symm⟩
  have c2 : i < j := by omega
  have c3 : j ≤ l.length := by have : (j : Int) ≤ ((List.length l : Nat) : Int) := c3; omega
  have hs : objs0 (fillOs [.row e false] (l, ())) 0 = some (.row e false l) := rfl
  have hno : ∀ k, k ≠ 0 → objs0 (fillOs [.row e false] (l, ())) k = none := fun k hk => by
    match k, hk with
    | 0, hk => exact absurd rfl hk
    | k + 1, _ => rfl
  have h0 := hrel.toStoRel.only hs hno (fun c fz t q => by cases q)
  obtain ⟨u, hu, hv, _⟩ := repV_row a1
  have hobj := hrel.toStoRel.sto 0 _ hs
  obtain ⟨u', hu', hobj⟩ := hobj
  rw [hu] at hu'; cases hu'
  obtain ⟨cells, k1, k2, k3⟩ := row_cells hobj
  have hone := RepL.one (fun _ _ h => Rep.one h) k3
  obtain ⟨A, cap, g0, g1, g2, g3, g4, g5, g6⟩ := hobj
  obtain ⟨ad, hA⟩ : ∃ ad, A = some ad := by
    cases hA : A with
    | none => have := g3 hA; omega
    | some ad => exact ⟨ad, rfl⟩
  subst hA
  have had := g4 ad rfl (by omega)
  subst had
  have hsz1 := mul_sz i j e.size (by omega)
  have hsz2 := mul_sz j l.length e.size c3
  have hsz3 := mul_sz l.length cap e.size g1
  have hsub : (l.length - j) * e.size = l.length * e.size - j * e.size := Nat.sub_mul ..
  have hsum : (i + (l.length - j)) * e.size = i * e.size + (l.length * e.size - j * e.size) := by rw [Nat.add_mul, hsub]
  have hk : l.length - (i + (l.length - j)) = j - i := by omega
  have hzsz : (zcells e).toArray.size = e.size := by simp [zcells_length]
  have hkz : (j - i) * e.size = j * e.size - i * e.size := Nat.sub_mul ..
  have hcall : (callFunc f [v1, .int .i64 i, .int .i64 j].toArray).run P w = .ok (.enter f [v1, .int .i64 i, .int .i64 j].toArray) w := by
    have q1 : fn.name ≠ "runtime.NumGoroutine" := by simpa using hname
    have q2 : fn.body ≠ none := fun q => by rw [q] at hbody; cases hbody
    simp [callFunc, Sem.run_bind, hf, q1, q2]
  rw [hcall]
  show Calls P f #[v1, .int .i64 i, .int .i64 j] w _
  rw [hv, g0]
  have hown : ∀ y, u.o ≤ y → y < u.o + cap * e.size → (w.cell? ⟨u.b, y, none⟩).isSome = true ∧ w.frozen? ⟨u.b, y, none⟩ = false := fun y q1 q2 => g6 y ((own_all g0).2 ⟨rfl, q1, q2⟩)
  have hnl : (cells.drop (j * e.size)).length = (l.length - j) * e.size := by rw [List.length_drop, k1, hsub]
  have hdrew : ∀ a, w.drew.cell? a = w.cell? a := fun a => rfl
  have hdrewf : ∀ a, w.drew.frozen? a = w.frozen? a := fun a => rfl
  have hth1 : w.drew.there u.b (u.o + i * e.size) (cells.drop (j * e.size)).length := fun q hq => by
    rw [hnl] at hq
    exact hown (u.o + i * e.size + q) (by omega) (by omega)
  obtain ⟨W1, hW1⟩ : ∃ W1, W1 = w.drew.setCells u.b (u.o + i * e.size) (cells.drop (j * e.size)) := ⟨_, rfl⟩
  have hlive1 : ∀ y, u.o ≤ y → y < u.o + cap * e.size → (W1.cell? ⟨u.b, y, none⟩).isSome = true ∧ W1.frozen? ⟨u.b, y, none⟩ = false := fun y q1 q2 => by
    obtain ⟨p1, p2⟩ := hown y q1 q2
    rw [hW1]
    exact ⟨World.isSome_setCells _ _ _ _ _ p1, by rw [World.frozen?_setCells]; exact p2⟩
  refine (hrun u.b u.o cap l.length i j (cells.drop (j * e.size)) w c2 c3 g1 hnl (fun k v hk' => ?_) (fun v hv' => hone v (List.mem_of_mem_drop hv')) (fun k hk' => hown _ (by omega) (by omega)) (fun ty W1' hW1' => ?_)).mono ?_
  · rw [List.getElem?_drop] at hk'
    have := k2 _ _ hk'
    rw [Nat.add_assoc]; exact this
  · rw [← hW1] at hW1'
    subst hW1'
    have hzc : (shutV e.isAgg (zcells e)).cells = (zcells e).toArray := cells_of_shut (shut_of (zcells_length e)) (zcells_one e)
    have := run_clear (P := P) (t := t) (te := te) (ty := ty) ht (fun w => hty.run_zero) (by rw [hzc]; exact zcells_one e) u.b (u.o + (i + (l.length - j)) * e.size) (l.length - (i + (l.length - j))) (cap - (i + (l.length - j))) (by omega) W1'
      (fun q hq => by rw [hzc, hzsz, hk, hkz] at hq; exact (hlive1 _ (by omega) (by omega)).1) (fun q hq => by rw [hzc, hzsz, hk, hkz] at hq; exact (hlive1 _ (by omega) (by omega)).2)
    rw [hzc] at this
    exact this
  rintro en W2 ⟨rfl, hW2⟩
  rw [← hW1] at hW2
  have hzl : (Builtin.zeroCells (zcells e).toArray (l.length - (i + (l.length - j)))).toList.length = j * e.size - i * e.size := by rw [zc_len, hzsz, hk, hkz]
  have hT1 : Touch (fun b y => b = u.b ∧ u.o ≤ y ∧ y < u.o + cap * e.size) w W1 := by
    rw [hW1]
    exact (Touch.drew _ w).trans ((Touch.setCells w.drew u.b (u.o + i * e.size) (cells.drop (j * e.size))).mono fun b y ⟨q1, q2, q3⟩ => ⟨q1, by omega, by rw [hnl] at q3; omega⟩)
  have hT2 : Touch (fun b y => b = u.b ∧ u.o ≤ y ∧ y < u.o + cap * e.size) w W2 := by
    rw [hW2]
    exact hT1.trans ((Touch.setCells W1 u.b (u.o + (i + (l.length - j)) * e.size) _).mono fun b y ⟨q1, q2, q3⟩ => ⟨q1, by omega, by rw [hzl] at q3; omega⟩)
  have hlen2 : (l.take i ++ l.drop j).length = i + (l.length - j) := by rw [List.length_append, List.length_take, List.length_drop, Nat.min_eq_left (by omega)]
  have hstep := h0.rewrite (id := 0) (id2 := 1) (l2 := l.take i ++ l.drop j) (W := W2) (by simp) hs (by simp [hu]) g0 hT2 (by omega) (fun k z hz => by
    by_cases hki : k < i
    · rw [List.getElem?_append_left (by rw [List.length_take]; omega), List.getElem?_take_of_lt hki] at hz
      obtain ⟨cs, q1, q2, q3, _⟩ := g5 k z hz
      have hm := mul_sz (k + 1) i e.size hki
      rw [Nat.add_mul, Nat.one_mul] at hm
      refine ⟨cs, q1, ?_, q3⟩
      rw [hW2, hW1]
      refine World.rangeAt_setCells_apart (World.rangeAt_setCells_apart (w := w.drew) q2 _ _ _ (.inr (.inl ?_))) _ _ _ (.inr (.inl ?_)) <;> omega
    · rw [List.getElem?_append_right (by rw [List.length_take]; omega), List.length_take, Nat.min_eq_left (by omega), List.getElem?_drop] at hz
      have hkl := (List.getElem?_eq_some_iff.1 hz).1
      obtain ⟨q1, q2⟩ := RepL.get (n := e.size) (fun _ _ h => Rep.length h) k3 hz
      have hr := rangeAt_sub (World.rangeAt_setCells_same w.drew u.b (u.o + i * e.size) (cells.drop (j * e.size)) hth1) ((k - i) * e.size) e.size
      rw [List.drop_drop, ← Nat.add_mul] at hr
      have eo : u.o + i * e.size + (k - i) * e.size = u.o + k * e.size := by
        have : i * e.size + (k - i) * e.size = k * e.size := by rw [← Nat.add_mul]; congr 1; omega
        omega
      rw [eo, ← hW1] at hr
      have hm := mul_sz (k + 1) (i + (l.length - j)) e.size (by omega)
      rw [Nat.add_mul, Nat.one_mul] at hm
      refine ⟨_, Rep.length q1, ?_, q1⟩
      rw [hW2]
      refine World.rangeAt_setCells_apart hr _ _ _ (.inr (.inl ?_))
      rw [Rep.length q1]; omega) (fun y q1 q2 => by
    obtain ⟨p1, p2⟩ := hlive1 y q1 q2
    rw [hW2]
    exact ⟨World.isSome_setCells _ _ _ _ _ p1, by rw [World.frozen?_setCells]; exact p2⟩)
  obtain ⟨k4, k5, k6⟩ := hstep
  rw [hlen2] at k4 k6
  have hsto : ∀ i', upds [(0, none), (1, some (.row e false (l.take i ++ l.drop j)))] (objs0 (fillOs [.row e false] (l, ()))) i' = objs0 (fillOs [.gone, .row e false] ((), (l.take i ++ l.drop j, ()))) i' := fun i' => by
    match i' with
    | 0 => rfl
    | 1 => rfl
    | n + 2 => rfl
  have hsto := funext hsto
  rw [hsto] at k4 k6
  refine ⟨.slice (some ⟨u.b, u.o, none⟩) (i + (l.length - j)) cap, rfl, S, _, repV_mkRow putM1_new rfl, ⟨k4, fun t => ?_, fun d _ _ => ⟨?_, fun k hk => ?_⟩, fun d hd => ?_⟩, fun q v hq hv' => ?_, ?_⟩
  · exact .inl rfl
  · show (if 1000 + d = 1 then _ else if 1000 + d = 0 then _ else none) = none
    rw [if_neg (by omega), if_neg (by omega)]
  · show (if 1000000 + 1000 * d + k = 1 then _ else if 1000000 + 1000 * d + k = 0 then _ else none) = none
    rw [if_neg (by omega), if_neg (by omega)]
  · show (if d = 1 then _ else if d = 0 then _ else none) = none
    rw [if_neg (by omega), if_neg (by omega)]
  · have hq0 : q = 0 := by have : q < 1 := hq; omega
    subst hq0
    show (if (0 : Nat) = 1 then _ else if (0 : Nat) = 0 then m 0 else none) = some v
    rw [if_neg (by omega), if_pos rfl]; exact hv'
  · have hO : OwnSt (objs0 (fillOs [.row e false] (l, ()))) (fun j => if j = 0 then m 0 else none) = OwnSt (objs0 (fillOs [.row e false] (l, ()))) m := by
      funext b y; apply propext; constructor
      · rintro ⟨i', o, u', p1, p2, p3⟩
        by_cases e0 : i' = 0
        · subst e0; exact ⟨0, o, u', p1, by simpa using p2, p3⟩
        · have p2 : (if i' = 0 then m 0 else none) = some u' := p2
          rw [if_neg e0] at p2; cases p2
      · rintro ⟨i', o, u', p1, p2, p3⟩
        by_cases e0 : i' = 0
        · subst e0; exact ⟨0, o, u', p1, by simpa using p2, p3⟩
        · rw [hno i' e0] at p1; cases p1
    rw [hO] at k6
    exact k6.drop
end
end Go.Proofs.D
