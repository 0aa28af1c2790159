/- New objects; literals. -/
import Derived.Test.YtmmhjcimijfipaaGreatDObj
import Derived.Laws.Tables
set_option linter.unusedVariables false
set_option linter.unusedSimpArgs false
namespace Go.Proofs.D
open Go.RowKit

section
variable {P : Program} {C : Ctx} {s : St} {a : Act} {w w' : World} {S S' : Cells} {m m' : Nat → Option MB} {R : Type} {κ : T → Ups → Option R} {r : R} {o : Oper} {σ : Nat → Option Obj}

def putM1 (m : Nat → Option MB) (id : Nat) (u : MB) : Nat → Option MB := fun i => if i = id then some u else m i

theorem putM1_old {id : Nat} {u : MB} (h : m id = none) : ∀ i v, m i = some v → putM1 m id u i = some v := fun i v hv => by
  unfold putM1; by_cases e : i = id
  · subst e; rw [h] at hv; cases hv
  · simp [e, hv]
theorem putM1_new {id : Nat} {u : MB} : putM1 m id u id = some u := by simp [putM1]
theorem putM1_inv {id : Nat} {u : MB} {i : Nat} {v : MB} (h : putM1 m id u i = some v) : m i = some v ∨ i = id := by
  unfold putM1 at h; split at h
  · exact .inr (by assumption)
  · exact .inl h

theorem StoRel.new (h : StoRel σ w S m) {id : Nat} (hid : m id = none) {u : MB} {ob : Obj} (hT : Touch (fun _ _ => False) w w')
    (hS : ∀ b x, S b x → S' b x) (hS' : ∀ b x, S' b x → S b x ∨ (w.heap.size ≤ b ∧ b < w'.heap.size))
    (hob : ObjOk w' S' (putM1 m id u) u ob) (hown : ∀ b x, Own u ob b x → w.heap.size ≤ b ∧ ¬ S' b x) :
    Step1 σ w S m (fun i => bif Nat.beq i id then some ob else σ i) w' S' (putM1 m id u) := by
  obtain ⟨k1, k2, k3⟩ := h.change (J := fun i => i = id) (σ' := fun i => bif Nat.beq i id then some ob else σ i) (m' := putM1 m id u) (S' := S')
    (fun i hi => upd_ne hi) (putM1_old hid) hT (fun b x hF _ => hF.elim) hS (fun b x hx => (hS' b x hx).imp (fun q => q) .inl)
    (fun i o hi ho => by
      subst hi
      rw [upd_eq] at ho; cases ho
      exact ⟨u, putM1_new, hob, fun b x hx => ⟨.inl (hown b x hx).1, (hown b x hx).2⟩⟩)
    (fun i j o p u v hi hj hij => absurd (hi.trans hj.symm) hij)
  exact ⟨k1, k2, k3⟩

theorem heap_new (w : World) (ob : Go.Obj) : (w.alloc ob).heap[w.heap.size]? = some ob := by
  show (w.heap.push ob)[w.heap.size]? = _
  simp
theorem alloc_cell (w : World) (C : Array Value) (te : TypeId) (x : Nat) : (w.alloc (.cells C te)).cell? ⟨w.heap.size, x, none⟩ = C[x]? ∧ (w.alloc (.cells C te)).frozen? ⟨w.heap.size, x, none⟩ = false := by
  simp only [World.cell?, World.frozen?, heap_new]
  simp
theorem alloc_range (w : World) (cs : List Value) (te : TypeId) : (w.alloc (.cells cs.toArray te)).rangeAt w.heap.size 0 cs := fun j v hj => by
  rw [(alloc_cell w cs.toArray te (0 + j)).1]; simpa using hj
theorem run_newRow (w : World) (cs : Array Value) (te : TypeId) : (newRow te cs).run P w = .ok ⟨w.heap.size, 0, none⟩ (w.alloc (.cells cs te)) := rfl

/-- A new variable. -/
theorem StoRel.newCell (h : StoRel σ w S m) {id : Nat} (hid : m id = none) {c : K} {t : T} {cs : List Value} (hf : t.fits c = true) (hr : RepC w S m t cs) (te : TypeId) :
    Step1 σ w S m (fun i => bif Nat.beq i id then some (.cell c false t) else σ i) (w.alloc (.cells cs.toArray te)) S (putM1 m id ⟨.pointer (some ⟨w.heap.size, 0, none⟩), w.heap.size, 0, c⟩) := by
  have hT := Touch.alloc (fun _ _ => False) w (.cells cs.toArray te)
  have hk : Keeps w S (w.alloc (.cells cs.toArray te)) S := hT.keeps (fun _ _ _ q => q) fun _ _ q => q
  refine h.new hid hT (fun _ _ q => q) (fun _ _ q => .inl q) ⟨rfl, rfl, hf, cs, alloc_range w cs te, hr.keep hk (putM1_old hid), fun _ j hj => (alloc_cell w _ te _).2, fun q => by cases q⟩ ?_
  rintro b x ⟨-, e, -, -⟩
  subst e
  exact ⟨Nat.le_refl _, fun hS => absurd (h.live _ _ hS) (Nat.lt_irrefl _)⟩

theorem Rel.free (hr : Rel s a.tmps w S m) {d : Nat} (h1 : d < 99000) (h2 : s.done d = false) : m (1000 + d) = none := (hr.fresh d h1 h2).1

theorem New.inv {id : Nat} {u : MB} {d : Nat} (h1 : d < 99000) (hi : id = 1000 + d) (i : Nat) (v : MB) (h : putM1 m id u i = some v) : m i = some v ∨ (true = true ∧ d < 99000 ∧ idsAt d i) :=
  (putM1_inv h).imp (fun h => h) fun e => ⟨rfl, h1, .inl (by omega)⟩

theorem repV_newPtr {w : World} {S : Cells} (m : Nat → Option MB) (id b : Nat) (hv : Value) (c : K) : RepV w S (putM1 m id ⟨hv, b, 0, c⟩) (.ptr id []) (.pointer (some ⟨b, 0, none⟩)) := by
  have := repV_mkPtr (w := w) (S := S) (p := []) (putM1_new (m := m) (id := id) (u := ⟨hv, b, 0, c⟩))
  have e : offK c [] = 0 := by cases c <;> rfl
  simpa [e] using this

theorem ok_alloc (hC : CtxOk P C) (hr : Rel s a.tmps w S m) {t : TypeId} (ho : o.op = .alloc t) {d : Nat} (hd : (match o.dst with | some d => d | none => 0) = d) (h1 : d < 99000) (h2 : s.done d = false)
    (he : evalOp C o s.env s.sto κ = some r) : Ok P s a w S m o κ r := by
  subst hd
  simp only [evalOp, ho] at he
  split at he
  case h_2 => cases he
  rename_i c hc
  have hT := hC.ty _ _ hc
  have hz := zeroT_ok (w := w) (S := S) (m := m) c
  have hcl := cells_of_shut (shut_of (zcells_length c)) (zcells_one c)
  refine ⟨_, _, he, fun next Q k => ?_⟩
  simp only [ho, makes] at k ⊢
  have st := hr.toStoRel.newCell (hr.free h1 h2) hz.2 hz.1 t
  refine wp_value (v := .pointer (some ⟨w.heap.size, 0, none⟩)) (w' := w.alloc (.cells (zcells c).toArray t)) ?_ (k _ _ (After.of hr (by rw [upds_one]; exact st) ?_ (New.inv h1 rfl)))
  · simp [execOp, ho, Instr.alloc, Sem.run_bind, hT.run_zero, newVar, hcl, run_newRow]
  · exact repV_newPtr _ _ _ _ _

theorem ok_box (hC : CtxOk P C) (hr : Rel s a.tmps w S m) {t : TypeId} {x : Operand} (ho : o.op = .box t x) {d : Nat} (hd : (match o.dst with | some d => d | none => 0) = d) (h1 : d < 99000) (h2 : s.done d = false)
    (he : evalOp C o s.env s.sto κ = some r) : Ok P s a w S m o κ r := by
  subst hd
  simp only [evalOp, ho] at he
  split at he
  case h_2 => cases he
  rename_i c y hc hx
  obtain ⟨hf, hg⟩ := bif_some he
  obtain ⟨cs, rc, sh, hcl, hl, h1c⟩ := of_repV_fits (opnd_any hx) hf (opnd_ok hr hx)
  refine ⟨_, _, hg, fun next Q k => ?_⟩
  simp only [ho, makes] at k ⊢
  have st := hr.toStoRel.newCell (hr.free h1 h2) hf rc t
  refine wp_value (v := .pointer (some ⟨w.heap.size, 0, none⟩)) (w' := w.alloc (.cells cs.toArray t)) ?_ (k _ _ (After.of hr (by rw [upds_one]; exact st) ?_ (New.inv h1 rfl)))
  · simp [execOp, ho, Instr.box, Sem.run_bind, newVar, hcl, run_newRow]
  · exact repV_newPtr _ _ _ _ _

/-! ### Literals -/
theorem splice_cons {cs : List Value} {o : Nat} {v : Value} {vs : List Value} (h : o + 1 + vs.length ≤ cs.length) : splice (cs.set o v) (o + 1) vs = splice cs o (v :: vs) := by
  have e : cs.set o v = (cs.take o ++ [v]) ++ cs.drop (o + 1) := by rw [List.set_eq_take_append_cons_drop, if_pos (by omega)]; simp
  have l : (cs.take o ++ [v]).length = o + 1 := by simp; omega
  have := splice_right (c1 := cs.take o ++ [v]) (c2 := cs.drop (o + 1)) (o := 0) (vs := vs)
  rw [l] at this
  rw [e, show o + 1 = o + 1 + 0 from rfl, this]
  simp [splice, Nat.add_assoc, Nat.add_comm, Nat.add_left_comm]

theorem fill_fold : ∀ (vs : List Value) (off k : Nat) (cs : List Value), off + k + vs.length ≤ cs.length →
    (vs.zipIdx k).foldl (fun (cs : Array Value) (x : Value × Nat) => cs.setIfInBounds (off + x.2) x.1) cs.toArray = (splice cs (off + k) vs).toArray
  | [], off, k, cs, h => by simp [splice]
  | v :: vs, off, k, cs, h => by
    simp only [List.zipIdx_cons, List.foldl_cons, List.setIfInBounds_toArray]
    simp only [List.length_cons] at h
    rw [fill_fold vs off (k + 1) (cs.set (off + k) v) (by simp; omega), ← Nat.add_assoc, splice_cons (by omega)]

theorem fill_step {place : Nat → Option (Nat × Nat)} {cs vs : List Value} {i off : Nat} {v : Value} {rest : List (Nat × Value)} (hp : place i = some (off, vs.length)) (hv : v.cells = vs.toArray) (hl : off + vs.length ≤ cs.length) :
    Instr.fill place cs.toArray ((i, v) :: rest) = Instr.fill place (splice cs off vs).toArray rest := by
  simp only [Instr.fill, hp, hv]
  have h := fill_fold vs off 0 cs (by omega)
  rw [if_neg (by simp; omega)]
  congr 1
  rw [← Array.foldl_toList]
  simpa using h
end
end Go.Proofs.D
