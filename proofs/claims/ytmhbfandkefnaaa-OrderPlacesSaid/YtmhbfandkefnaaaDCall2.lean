/- Calls: what a callee did, told of the caller's objects. -/
import Derived.Test.YtmhbfandkefnaaaDCall
set_option linter.unusedVariables false
set_option linter.unusedSimpArgs false
namespace Go.Proofs.D
open Go.RowKit

section
variable {w w' : World} {S S' S2 : Cells} {m m' m2 : Nat → Option MB} {σ : Nat → Option Obj}

def flatObj : Obj → Bool
  | .cell _ fz t => t.flatT && !fz | .row e sh _ => e.flat && !sh | .map k v _ => k.flat && v.flat

theorem flatObj_fill : ∀ {o : ObSk} {x : ObEl o} {p : Obj}, o.flat = true → fillO o x = some p → flatObj p = true
  | .cell c s, x, p, h, e => by
    simp only [fillO, Option.some.injEq] at e; subst e
    simp [flatObj, flatT_fill s x h]
  | .row c sh, x, p, h, e => by simp only [fillO, Option.some.injEq] at e; subst e; exact h
  | .map k v, x, p, h, e => by simp only [fillO, Option.some.injEq] at e; subst e; exact h
  | .gone, x, p, h, e => by cases e

theorem flatL_get : ∀ {l : List ObSk} {j : Nat} {o : ObSk}, flatL l = true → l[j]? = some o → o.flat = true
  | [], j, o, _, h => by simp at h
  | a :: l, 0, o, hf, h => by
    simp only [flatL, Bool.and_eq_true] at hf
    simp at h; subst h; exact hf.1
  | a :: l, j + 1, o, hf, h => by
    simp only [flatL, Bool.and_eq_true] at hf
    exact flatL_get hf.2 (by simpa using h)

theorem back_fits (ρ : Nat → Option (Nat × List Step)) : ∀ (t : T) (c : K), t.fits c = true → (back ρ t).fits c = true := by
  intro t
  induction t with
  | ptr k q =>
    intro c h
    cases c <;> first | (simp [T.fits] at h; done) | skip
    · rename_i r
      cases r with
      | zero => cases hk : ρ k <;> simp [back, hk, T.fits, K.size]
      | succ r => simp [T.fits] at h
  | row k =>
    intro c h
    cases c <;> first | (simp [T.fits] at h; done) | skip
    · simp only [back]; split <;> simp [T.fits, K.size]
  | mapr k =>
    intro c h
    cases c <;> first | (simp [T.fits] at h; done) | skip
    · rename_i r
      match r, h with
      | 1, _ => simp only [back]; split <;> simp [T.fits, K.size]
      | 0, h => simp [T.fits] at h
      | r + 2, h => simp [T.fits] at h
  | clo f c' ih =>
    intro c h
    cases c <;> first | (simp [T.fits] at h; done) | skip
    · rename_i r
      match r, h with
      | 2, _ => rfl
      | 0, h => simp [T.fits] at h
      | 1, h => simp [T.fits] at h
      | r + 3, h => simp [T.fits] at h
  | pair a b iha ihb =>
    intro c h
    cases c <;> first | (simp [T.fits] at h; done) | skip
    · rename_i ca cb
      simp only [T.fits, Bool.and_eq_true] at h
      simp only [back, T.fits, Bool.and_eq_true]
      exact ⟨iha _ h.1, ihb _ h.2⟩
    · rename_i n e
      cases n with
      | zero => simp [T.fits] at h
      | succ n =>
        simp only [T.fits, Bool.and_eq_true] at h
        simp only [back, T.fits, Bool.and_eq_true]
        exact ⟨iha _ h.1, ihb _ h.2⟩
  | tc a b iha ihb =>
    intro c h
    cases c <;> simp [T.fits] at h
  | tup l ih =>
    intro c h
    cases c <;> simp [T.fits] at h
  | _ => intro c h; exact h

theorem MapL.flat {kc vc : K} (h1 : kc.flat = true) (h2 : vc.flat = true) : ∀ {es : List (El kc × El vc)} {fs : List MapEntry}, MapL w S kc vc es fs → MapL w S' kc vc es fs
  | [], [], h => h
  | [], _ :: _, h => h
  | _ :: _, [], h => h
  | e :: r, f :: q, ⟨⟨c1, g1, g2⟩, ⟨c2, g3, g4⟩, g5⟩ => ⟨⟨c1, Rep.flat h1 g1, g2⟩, ⟨c2, Rep.flat h2 g3, g4⟩, MapL.flat h1 h2 g5⟩

/-- A callee's object, as the caller's. -/
theorem ObjOk.to {ρ : Nat → Option (Nat × List Step)} {u : MB} {o0 o : Obj} (h : ObjOk w' S' m' u o0) (hi : Into ρ m' m2) (hk : (∀ b x, S' b x → S2 b x) ∨ flatObj o0 = true) (he : backO ρ (some o0) = some o) :
    ObjOk w' S2 m2 u o ∧ ∀ b x, Own u o b x ↔ Own u o0 b x := by
  cases o0 with
  | cell c fz t =>
    simp only [backO, Option.some.injEq] at he; subst he
    obtain ⟨g0, g1, g2, cs, g3, g4, g5, g6⟩ := h
    refine ⟨⟨g0, g1, back_fits ρ t c g2, cs, g3, ?_, g5, fun hz j hj => ?_⟩, fun _ _ => Iff.rfl⟩
    · rcases hk with hk | hk
      · exact back_ok hi (g4.keep ⟨hk, fun _ _ _ _ h => h⟩ (fun _ _ q => q))
      · simp only [flatObj, Bool.and_eq_true] at hk
        exact back_ok hi (RepC.flatT hk.1 g4)
    · rcases hk with hk | hk
      · exact hk _ _ (g6 hz j hj)
      · simp [flatObj, hz] at hk
  | row e sh l =>
    simp only [backO, Option.some.injEq] at he; subst he
    obtain ⟨A, cap, g0, g1, g2, g3, g4, g5, g6⟩ := h
    refine ⟨⟨A, cap, g0, g1, g2, g3, g4, fun i x hx => ?_, g6⟩, fun _ _ => Iff.rfl⟩
    obtain ⟨cs, k1, k2, k3, k4⟩ := g5 i x hx
    rcases hk with hk | hk
    · exact ⟨cs, k1, k2, k3.keep ⟨hk, fun _ _ _ _ h => h⟩, fun hz j hj => hk _ _ (k4 hz j hj)⟩
    · simp only [flatObj, Bool.and_eq_true, Bool.not_eq_true'] at hk
      exact ⟨cs, k1, k2, Rep.flat hk.1 k3, fun hz => by rw [hk.2] at hz; cases hz⟩
  | map kc vc es =>
    simp only [backO, Option.some.injEq] at he; subst he
    obtain ⟨g0, g1, fs, clock, g2, g3⟩ := h
    refine ⟨⟨g0, g1, fs, clock, g2, ?_⟩, fun _ _ => Iff.rfl⟩
    rcases hk with hk | hk
    · exact g3.keep ⟨hk, fun _ _ _ _ h => h⟩
    · simp only [flatObj, Bool.and_eq_true] at hk
      exact g3.flat hk.1 hk.2

theorem objs0_of : ∀ {l : List (Option Obj)} {n : Nat} {o : Obj}, l[n]? = some (some o) → objs0 l n = some o
  | [], n, o, h => by simp at h
  | x :: l, 0, o, h => by simpa [objs0] using h
  | x :: l, n + 1, o, h => by
    have h' : l[n]? = some (some o) := by simpa using h
    exact objs0_of (l := l) (n := n) h'

/-- What is known where a call begins: σ1 with what was read frozen, σb what it is settled upon. -/
structure Called (n dn : Nat) (ρ : Binds) (ins : Nat → Option Obj) (σ1 σb : Nat → Option Obj) (w : World) (S1 Sb : Cells) (m1 : Nat → Option MB) : Prop where
  st1 : StoRel σ1 w S1 m1
  stb : StoRel σb w Sb m1
  sti : StoRel ins w S1 (bindM ρ m1)
  more : More σb σ1
  dom : ∀ i o, σ1 i = some o → ∃ o', σb i = some o'
  le : ∀ b x, Sb b x → S1 b x
  cells : ∀ b x, S1 b x → Sb b x ∨ OwnSt σb m1 b x
  keys : ∀ k id p, ρ.find k = some (id, p) → k < n
  path : ∀ k id p, ρ.find k = some (id, p) → p = [] ∨ ∃ c d, shapeO (σ1 id) = some c ∧ codeAt c p = some d
  bnd : ∀ k id p, ρ.find k = some (id, p) → ∃ v, m1 id = some v
  dist : ∀ i j id p q, ρ.find i = some (id, p) → ρ.find j = some (id, q) → i = j
  new : ∀ k, k < 500 → m1 (1000000 + 1000 * dn + k) = none
  place : ∀ i o u, ins i = some o → bindM ρ m1 i = some u → ∃ id p v o', ρ.find i = some (id, p) ∧ m1 id = some v ∧ σ1 id = some o' ∧ u = subM v p ∧ ∀ b y, Own u o b y → Own v o' b y

variable {n N dn : Nat} {ρ : Binds} {ins σ1 σb : Nat → Option Obj} {S1 Sb : Cells} {m1 : Nat → Option MB} {outs : List (Option Obj)}

theorem Called.own1 (h : Called n dn ρ ins σ1 σb w S1 Sb m1) {i : Nat} {o : Obj} {u : MB} (ho : σ1 i = some o) {b x : Nat} (hx : Own u o b x) : ∃ o', σb i = some o' ∧ Own u o' b x := by
  obtain ⟨o', ho'⟩ := h.dom i o ho
  refine ⟨o', ho', ?_⟩
  have hm := h.more i o' ho'
  cases o' with
  | cell c fz t => have hm : σ1 i = some (.cell c fz t) := hm; rw [ho] at hm; cases hm; exact hx
  | map kc vc es => have hm : σ1 i = some (.map kc vc es) := hm; rw [ho] at hm; cases hm; exact hx
  | row e sh l =>
    obtain ⟨sh', hm, hs⟩ := hm
    rw [ho] at hm; cases hm
    obtain ⟨n, cap, a, q1, q2, q3, q4, q5⟩ := hx
    exact ⟨n, cap, a, q1, q2, q3, q4, fun hz => q5 (hs hz)⟩

def boundJ (n N dn : Nat) (ρ : Binds) (i : Nat) : Prop := (∃ k p, ρ.find k = some (i, p)) ∨ ∃ k, n ≤ k ∧ k < N ∧ i = 1000000 + 1000 * dn + k

theorem Called.ownJ (h : Called n dn ρ ins σ1 σb w S1 Sb m1) {b x : Nat} (hx : OwnSt ins (bindM ρ m1) b x) : OwnJ (boundJ n N dn ρ) σb m1 b x := by
  obtain ⟨i, o, u, ho, hu, hx⟩ := hx
  obtain ⟨id, p, v, o', h1, h2, h3, h4, h5⟩ := h.place i o u ho hu
  obtain ⟨o2, h6, h7⟩ := h.own1 h3 (h5 b x hx)
  exact ⟨id, o2, v, .inl ⟨i, p, h1⟩, h6, h2, h7⟩

/-- Within a variable that a part of was handed on, only that part is the callee's. -/
theorem Called.part (h : Called n dn ρ ins σ1 σb w S1 Sb m1) {k id : Nat} {p : List Step} (hk : ρ.find k = some (id, p)) (hp : p ≠ []) {c0 d : K} {fz : Bool} {t0 : T} {v : MB} (hs : σ1 id = some (.cell c0 fz t0)) (hv : m1 id = some v)
    (hd : codeAt c0 p = some d) {b x : Nat} (ho : Own v (.cell c0 fz t0) b x) (hx : OwnSt ins (bindM ρ m1) b x) : b = v.b ∧ v.o + offK c0 p ≤ x ∧ x < v.o + offK c0 p + d.size := by
  obtain ⟨i, o, u, hi, hu, hx⟩ := hx
  obtain ⟨id', p', v', o', h1, h2, h3, h4, h5⟩ := h.place i o u hi hu
  have hid : id' = id := by
    by_cases e : id' = id
    · exact e
    · exact (h.st1.apart id' id o' _ v' v e h3 hs h2 hv b x (h5 b x hx) ho).elim
  subst hid
  have hik : i = k := h.dist _ _ _ _ _ h1 hk
  subst hik
  rw [hk] at h1; cases h1
  rw [hv] at h2; cases h2
  obtain ⟨u', g1, g2⟩ := h.sti.sto i o hi
  rw [hu] at g1; cases g1
  obtain ⟨v', g3, g4⟩ := h.st1.sto _ _ hs
  rw [hv] at g3; cases g3
  have hcode : v.code = c0 := g4.2.1
  have hcd : u.code = d := by rw [h4]; exact subM_code (by rw [hcode]; exact hd)
  cases o with
  | cell c fz' t =>
    have : u.code = c := g2.2.1
    rw [hcd] at this; subst this
    obtain ⟨-, q1, q2, q3⟩ := hx
    rw [h4, subM_b] at q1
    rw [h4, subM_o, hcode] at q2 q3
    exact ⟨q1, q2, q3⟩
  | row e sh l =>
    obtain ⟨A, cap, g5, _⟩ := g2
    cases p with
    | nil => exact absurd rfl hp
    | cons q r => rw [h4] at g5; cases g5
  | map kc vc es =>
    have g5 := g2.1
    cases p with
    | nil => exact absurd rfl hp
    | cons q r => rw [h4] at g5; cases g5

def callM (n N dn : Nat) (m1 m' : Nat → Option MB) (i : Nat) : Option MB :=
  match m1 i with
  | some u => some u
  | none => if 1000000 + 1000 * dn + n ≤ i ∧ i < 1000000 + 1000 * dn + N then m' (i - (1000000 + 1000 * dn)) else none

theorem callM_old {i : Nat} {u : MB} (h : m1 i = some u) : callM n N dn m1 m' i = some u := by simp [callM, h]
theorem callM_new {k : Nat} (h : m1 (1000000 + 1000 * dn + k) = none) (h1 : n ≤ k) (h2 : k < N) : callM n N dn m1 m' (1000000 + 1000 * dn + k) = m' k := by
  simp only [callM, h]
  rw [if_pos ⟨by omega, by omega⟩]; congr 1; omega
theorem callM_inv {i : Nat} {u : MB} (h : callM n N dn m1 m' i = some u) : m1 i = some u ∨ ∃ k, n ≤ k ∧ k < N ∧ i = 1000000 + 1000 * dn + k := by
  simp only [callM] at h
  split at h
  · rename_i u' hu; rw [hu]; exact .inl h
  · split at h
    · rename_i hc; exact .inr ⟨i - (1000000 + 1000 * dn), by omega, by omega, by omega⟩
    · cases h

theorem backM_some {k id : Nat} {p : List Step} (h : backM ρ n N dn k = some (id, p)) : (k < n ∧ ρ.find k = some (id, p)) ∨ (n ≤ k ∧ k < N ∧ id = 1000000 + 1000 * dn + k ∧ p = []) := by
  unfold backM at h
  cases h1 : Nat.blt k n with
  | true =>
    rw [h1] at h
    exact .inl ⟨by simpa [Nat.blt_eq] using h1, h⟩
  | false =>
    rw [h1] at h
    have h1' : ¬ k < n := by intro q; rw [← Nat.blt_eq] at q; rw [q] at h1; cases h1
    simp only [cond_false] at h
    obtain ⟨h2, h3⟩ := bif_some h
    cases h3
    exact .inr ⟨by omega, by simpa [Nat.blt_eq] using h2, rfl, rfl⟩

theorem codeAt_nil (c : K) : codeAt c [] = some c := by cases c <;> simp [codeAt]

theorem Called.into (h : Called n dn ρ ins σ1 σb w S1 Sb m1) (hN : N ≤ 500) (hpre : ∀ i u, i < n → bindM ρ m1 i = some u → m' i = some u) : Into (backM ρ n N dn) m' (callM n N dn m1 m') := by
  intro k id p u hb hu
  rcases backM_some hb with ⟨h1, h2⟩ | ⟨h1, h2, h3, h4⟩
  · obtain ⟨v, hv⟩ := h.bnd _ _ _ h2
    have h3 := hpre k (subM v p) h1 (by simp [bindM, h2, hv])
    rw [hu] at h3; cases h3
    refine ⟨v, callM_old hv, rfl, ?_⟩
    rcases h.path _ _ _ h2 with e | ⟨c, d, e1, e2⟩
    · subst e; exact ⟨_, codeAt_nil _⟩
    · refine ⟨d, ?_⟩
      cases ho : σ1 id with
      | none => rw [ho] at e1; cases e1
      | some o =>
        obtain ⟨v', g1, g2⟩ := h.st1.sto _ _ ho
        rw [hv] at g1; cases g1
        rw [ho] at e1
        cases o with
        | cell c' fz t => simp only [shapeO, Option.some.injEq] at e1; subst e1; rw [g2.2.1]; exact e2
        | row e sh l =>
          simp only [shapeO, Option.some.injEq] at e1; subst e1
          obtain ⟨A, cap, _, _, g3, _⟩ := g2
          rw [g3]; exact e2
        | map kc vc es => simp [shapeO] at e1
  · subst h3; subst h4
    exact ⟨u, by rw [callM_new (h.new k (by omega)) h1 h2, hu], rfl, _, codeAt_nil _⟩

theorem rangeAt_glue {w w' : World} {b o off : Nat} {cs vs : List Value} (h : w.rangeAt b o cs) (hv : w'.rangeAt b (o + off) vs) (hl : off + vs.length ≤ cs.length)
    (hc : ∀ j, j < cs.length → (j < off ∨ off + vs.length ≤ j) → w'.cell? ⟨b, o + j, none⟩ = w.cell? ⟨b, o + j, none⟩) : w'.rangeAt b o (splice cs off vs) := fun j v hj => by
  have hjl : j < cs.length := by
    have := (List.getElem?_eq_some_iff.1 hj).1
    rwa [splice_length hl] at this
  by_cases h1 : j < off
  · have e : (splice cs off vs)[j]? = cs[j]? := by
      rw [splice, List.getElem?_append_left (by simp; omega), List.getElem?_take]; simp [h1]
    rw [e] at hj
    rw [hc j hjl (.inl h1)]; exact h j v hj
  · by_cases h2 : j < off + vs.length
    · have e : (splice cs off vs)[j]? = vs[j - off]? := by
        rw [splice, List.getElem?_append_right (by simp; omega), List.length_take, show min off cs.length = off by omega, List.getElem?_append_left (by omega)]
      rw [e] at hj
      have := hv _ v hj
      rwa [show o + off + (j - off) = o + j by omega] at this
    · have e : (splice cs off vs)[j]? = cs[j]? := by
        rw [splice, List.getElem?_append_right (by simp; omega), List.length_take, show min off cs.length = off by omega, List.getElem?_append_right (by omega), List.getElem?_drop]
        congr 1; omega
      rw [e] at hj
      rw [hc j hjl (.inr (by omega))]; exact h j v hj

theorem Called.settle (h : Called n dn ρ ins σ1 σb w S1 Sb m1) {R : Type} {r : R} {κ : Ups → Option R} {u0 : Ups} (hN : N ≤ 500) (hn : n ≤ N) (hl : outs.length = N)
    (hfz : ∀ (a : Nat) (c : K) (fz : Bool) (t : T), outs[a]? = some (some (.cell c fz t)) → fz = false)
    (hσ : ∀ id c0 t0, σ id = some (.cell c0 false t0) → σ1 id = some (.cell c0 false t0) ∧ σb id = some (.cell c0 false t0))
    (hu : ∀ i, upds u0 σ i = σb i)
    (hkeep : (∀ b x, S1 b x → Sb b x) ∨ ∀ (a : Nat) (o : Obj), outs[a]? = some (some o) → flatObj o = true)
    (hS : StoRel (objs0 outs) w' S' m') (hpre : ∀ i u, i < n → bindM ρ m1 i = some u → m' i = some u)
    (hext : Ext (OwnSt ins (bindM ρ m1)) w S1 (fun _ => none) w' S' (fun _ => none) (OwnSt (objs0 outs) m'))
    (hs : settle σ (backM ρ n N dn) 0 outs u0 κ = some r) :
    ∃ v S2, κ v = some r ∧ Step1 σb w Sb m1 (upds v σ) w' S2 (callM n N dn m1 m') ∧ ((∀ b x, S1 b x → Sb b x) → ∀ b x, S' b x → S2 b x) := by
  classical
  have hinto := h.into hN hpre
  have hB : ∀ a b id p q, backM ρ n N dn a = some (id, p) → backM ρ n N dn b = some (id, q) → a = b := by
    intro a b id p q ha hb
    rcases backM_some ha with ⟨a1, a2⟩ | ⟨a1, a2, a3, a4⟩ <;> rcases backM_some hb with ⟨b1, b2⟩ | ⟨b1, b2, b3, b4⟩
    · exact h.dist _ _ _ _ _ a2 b2
    · obtain ⟨v, hv⟩ := h.bnd _ _ _ a2
      rw [b3, h.new b (by omega)] at hv; cases hv
    · obtain ⟨v, hv⟩ := h.bnd _ _ _ b2
      rw [a3, h.new a (by omega)] at hv; cases hv
    · omega
  let S2 : Cells := fun b x => Sb b x ∨ (S' b x ∧ ¬ OwnJ (fun i => ¬ boundJ n N dn ρ i) σb m1 b x)
  have hJJ : ∀ b x, OwnJ (boundJ n N dn ρ) σb m1 b x → ¬ OwnJ (fun i => ¬ boundJ n N dn ρ i) σb m1 b x := by
    rintro b x ⟨i, o, u, a1, a2, a3, a4⟩ ⟨j, p, v, b1, b2, b3, b4⟩
    exact h.stb.apart i j o p u v (fun e => b1 (e ▸ a1)) a2 b2 a3 b3 b x a4 b4
  have hnew : ∀ b x, w.heap.size ≤ b → ¬ OwnSt σb m1 b x := fun b x hb hx => by have := h.stb.own_lt hx; omega
  have hSS : (∀ b x, S1 b x → Sb b x) → ∀ b x, S' b x → S2 b x := by
    intro hk b x hx
    rcases hext.less b x hx with h1 | h1 | h1
    · exact .inl (hk b x h1)
    · exact .inr ⟨hx, hJJ b x (h.ownJ h1)⟩
    · exact .inr ⟨hx, fun q => hnew b x h1 q.st⟩
  have hkeep' : ∀ {a : Nat} {o : Obj}, outs[a]? = some (some o) → (∀ b x, S' b x → S2 b x) ∨ flatObj o = true := fun ha => hkeep.imp hSS fun q => q _ _ ha
  have hT : Touch (OwnSt ins (bindM ρ m1)) w w' := ⟨hext.os, hext.tape, hext.output, hext.size, hext.cell, hext.block⟩
  have hkb : Keeps w Sb w' S2 := hT.keeps (fun b x q1 q2 => h.stb.notS q1 (h.ownJ (N := N) q2).st) fun b x q => .inl q
  -- the settled objects
  let V : Nat → List Value → Prop := fun a vs => ∃ c t u', outs[a]? = some (some (.cell c false t)) ∧ m' a = some u' ∧ u'.code = c ∧ w'.rangeAt u'.b u'.o vs ∧ ∀ j, j < c.size → w'.frozen? ⟨u'.b, u'.o + j, none⟩ = false
  obtain ⟨v, hv1, hv2, hv3⟩ := settle_ok (w := w') (S := S2) (m2 := callM n N dn m1 m') (V := V) hB (j := 0) (fun a c fz t ha id p hr hp => by
    have hz := hfz _ _ _ _ ha
    subst hz
    obtain ⟨u', g1, g2⟩ := hS.sto a _ (objs0_of ha)
    have g3 := (g2.to (ρ := backM ρ n N dn) hinto (hkeep' ha) rfl).1
    obtain ⟨-, k1, -, cs, k2, k3, k4, -⟩ := g3
    rw [Nat.zero_add] at hr ⊢
    refine ⟨cs, ⟨c, t, u', ha, g1, k1, k2, k4 rfl⟩, k3, fun c0 t0 hs0 => ?_⟩
    obtain ⟨s1, s2⟩ := hσ _ _ _ hs0
    obtain ⟨v0, q1, q2⟩ := h.st1.sto _ _ s1
    refine ⟨q2.2.2.1, ?_⟩
    rcases backM_some hr with ⟨a1, a2⟩ | ⟨_, _, _, a4⟩
    · rcases h.path _ _ _ a2 with e | ⟨c', d, e1, e2⟩
      · exact absurd e hp
      · rw [s1] at e1; simp only [shapeO, Option.some.injEq] at e1; subst e1; exact ⟨d, e2⟩
    · exact absurd a4 hp) hs
  simp only [Nat.zero_add] at hv2 hv3
  -- how an object stands behind the call
  have ownI : ∀ {k : Nat} {o0 : Obj} {u : MB}, objs0 outs k = some o0 → m' k = some u → ∀ b x, Own u o0 b x → (w.heap.size ≤ b ∨ OwnJ (boundJ n N dn ρ) σb m1 b x) ∧ ¬ S2 b x := by
    intro k o0 u ho hu b x hx
    have hst : OwnSt (objs0 outs) m' b x := ⟨k, o0, u, ho, hu, hx⟩
    refine ⟨(hext.own b x hst).symm.imp (fun q => q) fun q => h.ownJ q, fun hs2 => ?_⟩
    rcases hs2 with hs2 | ⟨hs2, _⟩
    · rcases hext.own b x hst with q | q
      · exact h.stb.notS hs2 (h.ownJ (N := N) q).st
      · have := h.stb.live b x hs2; omega
    · exact hS.notS hs2 hst
  have kind : ∀ i o, boundJ n N dn ρ i → upds v σ i = some o →
      (∃ k o0 u, backM ρ n N dn k = some (i, []) ∧ outs[k]? = some (some o0) ∧ m' k = some u ∧ callM n N dn m1 m' i = some u ∧ ObjOk w' S2 (callM n N dn m1 m') u o ∧ ∀ b x, Own u o b x ↔ Own u o0 b x) ∨
      (∃ k p c0 t0 c t y d v0 u', p ≠ [] ∧ ρ.find k = some (i, p) ∧ k < n ∧ σ1 i = some (.cell c0 false t0) ∧ σb i = some (.cell c0 false t0) ∧ o = .cell c0 false y ∧ codeAt c0 p = some d ∧ m1 i = some v0 ∧ outs[k]? = some (some (.cell c false t)) ∧
        m' k = some u' ∧ u' = subM v0 p ∧ c = d ∧ ObjOk w' S2 (callM n N dn m1 m') v0 o ∧ ∀ b x, Own v0 o b x → Own v0 (.cell c0 false t0) b x) := by
    intro i o hi ho
    have hk : ∃ k p, backM ρ n N dn k = some (i, p) ∧ k < N := by
      rcases hi with ⟨k, p, hf⟩ | ⟨k, k1, k2, k3⟩
      · have hlt := h.keys _ _ _ hf
        exact ⟨k, p, by simp [backM, (Nat.blt_eq ▸ hlt : Nat.blt k n = true), hf], by omega⟩
      · refine ⟨k, [], ?_, k2⟩
        have e1 : Nat.blt k n = false := by cases hq : Nat.blt k n with
          | false => rfl
          | true => rw [Nat.blt_eq] at hq; omega
        have e2 : Nat.blt k N = true := by rw [Nat.blt_eq]; exact k2
        simp [backM, e1, e2, k3]
    obtain ⟨k, p, hb, hkN⟩ := hk
    obtain ⟨ob, hob⟩ : ∃ ob, outs[k]? = some ob := ⟨outs[k]'(by omega), List.getElem?_eq_getElem (by omega)⟩
    obtain ⟨id, p', q1, q2⟩ := hv3 k ob hob
    rw [hb] at q1; cases q1
    rcases q2 with ⟨e1, e2⟩ | ⟨c0, t0, c, fz, t, y, d, e1, e2, e3, e4, e5, e6, vs, e7, e8, e9, e10⟩
    · left
      subst e1
      rw [ho] at e2
      cases ob with
      | none => cases e2
      | some o0 =>
        obtain ⟨u, g1, g2⟩ := hS.sto k o0 (objs0_of hob)
        have g3 := g2.to (ρ := backM ρ n N dn) hinto (hkeep' hob) e2.symm
        refine ⟨k, o0, u, hb, hob, g1, ?_, g3⟩
        obtain ⟨v', i1, i2, _⟩ := hinto k i [] u hb g1
        have i2 : u = v' := i2
        subst i2; exact i1
    · right
      rw [ho] at e4; cases e4
      subst e3
      have hz := hfz _ _ _ _ hob
      subst hz
      obtain ⟨s1, s2⟩ := hσ _ _ _ e2
      obtain ⟨a1, a2⟩ : k < n ∧ ρ.find k = some (i, p) := by
        rcases backM_some hb with q | ⟨_, _, _, q⟩
        · exact q
        · exact absurd q e1
      obtain ⟨v0, hv0⟩ := h.bnd _ _ _ a2
      have hmk := hpre k (subM v0 p) a1 (by simp [bindM, a2, hv0])
      obtain ⟨c', t', u', r1, r2, r3, r4, r5⟩ := e7
      rw [hob] at r1; cases r1
      rw [hmk] at r2; cases r2
      obtain ⟨v1, p1, p2⟩ := h.stb.sto _ _ s2
      rw [hv0] at p1; cases p1
      obtain ⟨p3, p4, p5, cs, p6, p7, p8, -⟩ := p2
      have hcd : c = d := by rw [← r3]; exact subM_code (by rw [p4]; exact e5)
      subst hcd
      have p7' : RepC w' S2 (callM n N dn m1 m') t0 cs := p7.keep hkb fun _ _ q => callM_old q
      obtain ⟨t1, t2⟩ := e10 cs p7'
      have hcl := RepC.length p5 p7
      rw [subM_b, subM_o, p4] at r4 r5
      have outside : ∀ j, j < cs.length → (j < offK c0 p ∨ offK c0 p + vs.length ≤ j) → ¬ OwnSt ins (bindM ρ m1) v0.b (v0.o + j) := by
        intro j hj hjo hx
        have := h.part a2 e1 s1 hv0 e5 ⟨rfl, rfl, by omega, by omega⟩ hx
        omega
      have hblk : ∀ j, j < cs.length → v0.b < w.heap.size := fun j hj => h.stb.own_lt ⟨i, _, v0, s2, hv0, rfl, rfl, (by omega : v0.o ≤ v0.o + j), (by omega)⟩
      refine ⟨k, p, c0, t0, c, t, y, c, v0, _, e1, a2, a1, s1, s2, rfl, e5, hv0, hob, hmk, rfl, rfl, ⟨p3, p4, e6, _, ?_, t1, fun _ j hj => ?_, fun q => by cases q⟩, fun b x q => q⟩
      · exact rangeAt_glue p6 r4 (by omega) fun j hj hjo => (hext.cell _ _ (hblk j hj) (outside j hj hjo)).1
      · by_cases hin : offK c0 p ≤ j ∧ j < offK c0 p + c.size
        · have := r5 (j - offK c0 p) (by omega)
          rwa [show v0.o + offK c0 p + (j - offK c0 p) = v0.o + j by omega] at this
        · rw [(hext.cell _ _ (hblk j (by omega)) (outside j (by omega) (by omega))).2]
          exact p8 rfl j hj
  obtain ⟨k1, k2, k3⟩ := h.stb.change (J := boundJ n N dn ρ) (F := OwnSt ins (bindM ρ m1)) (σ' := upds v σ) (m' := callM n N dn m1 m') (S' := S2)
    (fun i hi => by
      rw [hv2 i (fun a ha p q => hi ?_)]
      · exact hu i
      · rcases backM_some q with ⟨_, a2⟩ | ⟨a1, a2, a3, _⟩
        · exact .inl ⟨a, p, a2⟩
        · exact .inr ⟨a, a1, a2, a3⟩)
    (fun i u q => callM_old q) hT (fun b x q _ => h.ownJ q) (fun b x q => .inl q)
    (fun b x q => by
      rcases q with q | ⟨q1, q2⟩
      · exact .inl q
      · rcases hext.less b x q1 with h1 | h1 | h1
        · rcases h.cells b x h1 with h2 | ⟨i, o, u, h2, h3, h4⟩
          · exact .inl h2
          · by_cases hj : boundJ n N dn ρ i
            · exact .inr (.inr ⟨i, o, u, hj, h2, h3, h4⟩)
            · exact absurd ⟨i, o, u, hj, h2, h3, h4⟩ q2
        · exact .inr (.inr (h.ownJ h1))
        · exact .inr (.inl ⟨h1, hS.live b x q1⟩))
    (fun i o hi ho => by
      rcases kind i o hi ho with ⟨k, o0, u, g1, g2, g3, g4, g5, g6⟩ | ⟨k, p, c0, t0, c, t, y, d, v0, u', g1, g2, g3, g4, g5, g6, g7, g8, g9, g10, g11, g12, g13, g14⟩
      · exact ⟨u, g4, g5, fun b x hx => ownI (objs0_of g2) g3 b x ((g6 b x).1 hx)⟩
      · refine ⟨v0, callM_old g8, g13, fun b x hx => ?_⟩
        have hx' := g14 b x hx
        refine ⟨.inr ⟨i, _, v0, hi, g5, g8, hx'⟩, fun hs2 => ?_⟩
        rcases hs2 with hs2 | ⟨hs2, _⟩
        · exact h.stb.stab i _ v0 g5 g8 b x hs2 hx'
        · rcases hext.less b x hs2 with q | q | q
          · exact h.st1.stab i _ v0 g4 g8 b x q hx'
          · obtain ⟨q1, q2, q3⟩ := h.part g2 g1 g4 g8 g7 hx' q
            have hcode : v0.code = c0 := by
              obtain ⟨v1, p1, p2⟩ := h.st1.sto _ _ g4
              rw [g8] at p1; cases p1; exact p2.2.1
            refine hS.stab k _ u' (objs0_of g9) g10 b x hs2 ⟨rfl, ?_, ?_, ?_⟩
            · rw [g11, subM_b]; exact q1
            · rw [g11, subM_o, hcode]; exact q2
            · rw [g11, subM_o, hcode, g12]; exact q3
          · have := h.stb.own_lt (b := b) (x := x) ⟨i, _, v0, g5, g8, hx'⟩; omega)
    (fun i j o p u u2 hi hj hij ho hp hu hu2 b x hx hy => by
      -- one that is the callee's, and a variable that a part of was handed on
      have mixed : ∀ {i k : Nat} {o0 : Obj} {u : MB}, backM ρ n N dn k = some (i, []) → outs[k]? = some (some o0) → m' k = some u → Own u o0 b x →
          ∀ {j k' : Nat} {p : List Step} {c0 : K} {t0 : T} {c : K} {t : T} {d : K} {v0 u' : MB}, i ≠ j → p ≠ [] → ρ.find k' = some (j, p) → k' < n → σ1 j = some (.cell c0 false t0) → codeAt c0 p = some d → m1 j = some v0 →
            outs[k']? = some (some (.cell c false t)) → m' k' = some u' → u' = subM v0 p → c = d → Own v0 (.cell c0 false t0) b x → False := by
        intro i k o0 u g1 g2 g3 g4 j k' p c0 t0 c t d v0 u' hij f1 f2 f3 f4 f7 f8 f9 f10 f11 f12 hy
        have hcode : v0.code = c0 := by
          obtain ⟨v1, p1, p2⟩ := h.st1.sto _ _ f4
          rw [f8] at p1; cases p1; exact p2.2.1
        rcases hext.own b x ⟨k, o0, u, objs0_of g2, g3, g4⟩ with q | q
        · obtain ⟨q1, q2, q3⟩ := h.part f2 f1 f4 f8 f7 hy q
          have hkk : k ≠ k' := fun e => by
            subst e
            rw [show backM ρ n N dn k = some (j, p) by simp [backM, (Nat.blt_eq ▸ f3 : Nat.blt k n = true), f2]] at g1
            cases g1; exact f1 rfl
          refine hS.apart k k' _ _ u u' hkk (objs0_of g2) (objs0_of f9) g3 f10 b x g4 ⟨rfl, ?_, ?_, ?_⟩
          · rw [f11, subM_b]; exact q1
          · rw [f11, subM_o, hcode]; exact q2
          · rw [f11, subM_o, hcode, f12]; exact q3
        · have := h.st1.own_lt (b := b) (x := x) ⟨j, _, v0, f4, f8, hy⟩; omega
      rcases kind i o hi ho with ⟨k, o0, ui, g1, g2, g3, g4, g5, g6⟩ | ⟨k, q, c0, t0, c, t, y, d, v0, u', g1, g2, g3, g4, g5, g6, g7, g8, g9, g10, g11, g12, g13, g14⟩
      · rw [hu] at g4; cases g4
        rcases kind j p hj hp with ⟨k', o0', uj, f1, f2, f3, f4, f5, f6⟩ | ⟨k', q, c0, t0, c, t, y, d, v0, u', f1, f2, f3, f4, f5, f6, f7, f8, f9, f10, f11, f12, f13, f14⟩
        · rw [hu2] at f4; cases f4
          have hkk : k ≠ k' := fun e => by subst e; rw [g1] at f1; cases f1; exact hij rfl
          exact hS.apart k k' _ _ u u2 hkk (objs0_of g2) (objs0_of f2) g3 f3 b x ((g6 b x).1 hx) ((f6 b x).1 hy)
        · have e := callM_old (n := n) (N := N) (dn := dn) (m' := m') f8
          rw [hu2] at e; cases e
          exact mixed g1 g2 g3 ((g6 b x).1 hx) hij f1 f2 f3 f4 f7 f8 f9 f10 f11 f12 (f14 b x hy)
      · have e := callM_old (n := n) (N := N) (dn := dn) (m' := m') g8
        rw [hu] at e; cases e
        rcases kind j p hj hp with ⟨k', o0', uj, f1, f2, f3, f4, f5, f6⟩ | ⟨k', q', c0', t0', c', t', y', d', v0', u'', f1, f2, f3, f4, f5, f6, f7, f8, f9, f10, f11, f12, f13, f14⟩
        · rw [hu2] at f4; cases f4
          exact mixed f1 f2 f3 ((f6 b x).1 hy) (fun e => hij e.symm) g1 g2 g3 g4 g7 g8 g9 g10 g11 g12 (g14 b x hx)
        · have e := callM_old (n := n) (N := N) (dn := dn) (m' := m') f8
          rw [hu2] at e; cases e
          exact h.st1.apart i j _ _ _ _ hij g4 f4 g8 f8 b x (g14 b x hx) (f14 b x hy))
  exact ⟨v, S2, hv1, ⟨k1, k2, k3⟩, hSS⟩
end
end Go.Proofs.D
