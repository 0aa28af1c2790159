/- An operation's value hangs on its operands and on the objects that these lead to alone. -/
import Derived.Test.YtmhbfandkefnaaaDCongr
set_option linter.unusedVariables false
set_option linter.unusedSimpArgs false
namespace Go.Proofs.D
open Go.RowKit

section
variable {C : Ctx} {o : Oper} {s s' : Nat → T} {σ σ' : Sto} {R : Type} {κ : T → Ups → Option R}

theorem evalOp_congr {rd : List Nat} (hE : AgreeE s s' (opsOf o.op)) (hσ : ∀ i ∈ rd, σ' i = σ i) (hrd : ∀ i ∈ idsOf s (opsOf o.op), i ∈ rd)
    (hcl : isCall o.op = true → ∀ id c fz t, id ∈ rd → σ id = some (.cell c fz t) → ∀ i ∈ t.ids, i ∈ rd) : evalOp C o s' σ' κ = evalOp C o s σ κ := by
  have hi : ∀ {l : List Operand}, opsOf o.op = l → ∀ {x : Operand}, x ∈ l → ∀ {c : Option K} {u : T}, opnd s c x = some u → ∀ i ∈ u.ids, σ' i = σ i :=
    fun e x hx c u hu i hm => hσ i (hrd i (opnd_ids (by rw [e]; exact hx) hu i hm))
  cases hop : o.op with
  | move x =>
    have he := hop ▸ hE
    simp only [opsOf] at he
    simp only [evalOp, hop, opnd_congr he (x := x) (by simp)]
  | assign x =>
    have he := hop ▸ hE
    simp only [opsOf] at he
    simp only [evalOp, hop, opnd_congr he (x := x) (by simp)]
  | pick c a b =>
    have he := hop ▸ hE
    simp only [opsOf] at he
    simp only [evalOp, hop, opnd_congr he (x := c) (by simp), opnd_congr he (x := a) (by simp), opnd_congr he (x := b) (by simp)]
  | alloc t => simp only [evalOp, hop]
  | box t x =>
    have he := hop ▸ hE
    simp only [opsOf] at he
    simp only [evalOp, hop, opnd_congr he (x := x) (by simp)]
  | build t ps =>
    have he := hop ▸ hE
    simp only [opsOf] at he
    simp only [evalOp, hop]
    cases C.ty t with
    | none => rfl
    | some c =>
      simp only []
      rw [parts_congr he fun x hx => List.mem_map.2 ⟨x, hx, rfl⟩]
  | buildSlice t n ps =>
    have he := hop ▸ hE
    simp only [opsOf] at he
    have hid : ∀ i ∈ idsOf s (ps.toList.map (·.2)), σ' i = σ i := fun i hm => hσ i (hrd i (by rw [hop]; exact hm))
    simp only [evalOp, hop]
    cases C.ty t with
    | none => rfl
    | some c =>
      cases c with
      | slice e => simp only []; rw [elems_congr he hid fun x hx => List.mem_map.2 ⟨x, hx, rfl⟩]
      | _ => rfl
  | load t x =>
    have he := hop ▸ hE
    simp only [opsOf] at he
    have hx : ∀ {u : T}, opnd s (none) x = some u → ∀ i ∈ u.ids, σ' i = σ i := hi (l := [x]) (by rw [hop]; rfl) (x := x) (by simp)
    simp only [evalOp, hop, opnd_congr he (x := x) (by simp)]
    cases h : opnd s none x with
    | none => rfl
    | some u =>
      cases u with
      | ptr id p =>
        have := hx h id (by simp [T.ids])
        simp only [shapeP, this]
      | _ => rfl
  | store t x y =>
    have he := hop ▸ hE
    simp only [opsOf] at he
    have hx : ∀ {u : T}, opnd s (none) x = some u → ∀ i ∈ u.ids, σ' i = σ i := hi (l := [x, y]) (by rw [hop]; rfl) (x := x) (by simp)
    simp only [evalOp, hop, opnd_congr he (x := x) (by simp), opnd_congr he (x := y) (by simp)]
    cases h : opnd s none x with
    | none => rfl
    | some u =>
      cases u with
      | ptr id p =>
        have := hx h id (by simp [T.ids])
        cases opnd s (C.ty t) y with
        | none => rfl
        | some v => simp only [shapeP, this]
      | _ => rfl
  | nilCheck x =>
    have he := hop ▸ hE
    simp only [opsOf] at he
    simp only [evalOp, hop, opnd_congr he (x := x) (by simp)]
  | binOp op t x y ty =>
    have he := hop ▸ hE
    simp only [opsOf] at he
    simp only [evalOp, hop, opnd_congr he (x := x) (by simp), opnd_congr he (x := y) (by simp)]
  | unOp op t x =>
    have he := hop ▸ hE
    simp only [opsOf] at he
    simp only [evalOp, hop, opnd_congr he (x := x) (by simp)]
  | convert t d x =>
    have he := hop ▸ hE
    simp only [opsOf] at he
    simp only [evalOp, hop, opnd_congr he (x := x) (by simp)]
  | slice t x lo hh mx =>
    have he := hop ▸ hE
    simp only [opsOf] at he
    have hx : ∀ {u : T}, opnd s (C.ty t) x = some u → ∀ i ∈ u.ids, σ' i = σ i := hi (l := x :: (lo.toList ++ hh.toList ++ mx.toList)) (by rw [hop]; rfl) (x := x) (by simp)
    simp only [evalOp, hop, opnd_congr he (x := x) (by simp), optOpnd_congr he (x := lo) (fun y hy => by simp [Option.mem_def.1 hy]), optOpnd_congr he (x := hh) (fun y hy => by simp [Option.mem_def.1 hy]),
      optOpnd_congr he (x := mx) (fun y hy => by simp [Option.mem_def.1 hy])]
    generalize h : opnd s (C.ty t) x = X
    generalize optOpnd s lo = A
    generalize optOpnd s hh = B
    generalize optOpnd s mx = D
    have hm : ∀ {u : T} {i : Nat}, X = some u → i ∈ u.ids → σ' i = σ i := fun e hi => hx (h.trans e) _ hi
    split <;> first | rfl | (have this := hm rfl (List.mem_singleton.2 rfl); simp only [shapeP, this])
  | fieldAddr t x j =>
    have he := hop ▸ hE
    simp only [opsOf] at he
    have hx : ∀ {u : T}, opnd s (none) x = some u → ∀ i ∈ u.ids, σ' i = σ i := hi (l := [x]) (by rw [hop]; rfl) (x := x) (by simp)
    simp only [evalOp, hop, opnd_congr he (x := x) (by simp)]
    cases h : opnd s none x with
    | none => rfl
    | some u =>
      cases u with
      | ptr id p =>
        have := hx h id (by simp [T.ids])
        simp only [shapeP, this]
      | _ => rfl
  | field t x j =>
    have he := hop ▸ hE
    simp only [opsOf] at he
    simp only [evalOp, hop, opnd_congr he (x := x) (by simp)]
  | indexAddr t x i =>
    have he := hop ▸ hE
    simp only [opsOf] at he
    have hx : ∀ {u : T}, opnd s (none) x = some u → ∀ i ∈ u.ids, σ' i = σ i := hi (l := [x, i]) (by rw [hop]; rfl) (x := x) (by simp)
    simp only [evalOp, hop, opnd_congr he (x := x) (by simp), opnd_congr he (x := i) (by simp)]
    generalize h : opnd s none x = X
    generalize opnd s none i = A
    have hm : ∀ {u : T} {i : Nat}, X = some u → i ∈ u.ids → σ' i = σ i := fun e hi => hx (h.trans e) _ hi
    split <;> first | rfl | (have this := hm rfl (List.mem_singleton.2 rfl); simp only [shapeP, this])
  | index t x i =>
    have he := hop ▸ hE
    simp only [opsOf] at he
    simp only [evalOp, hop, opnd_congr he (x := x) (by simp), opnd_congr he (x := i) (by simp)]
  | extract x j =>
    have he := hop ▸ hE
    simp only [opsOf] at he
    simp only [evalOp, hop, opnd_congr he (x := x) (by simp)]
  | makeFunc f fst caps =>
    have he := hop ▸ hE
    simp only [opsOf] at he
    cases f with
    | func g => simp only [evalOp, hop]; rw [chainT_congr he fun x hx => hx]
    | _ => simp only [evalOp, hop]
  | makeSlice t x y =>
    have he := hop ▸ hE
    simp only [opsOf] at he
    simp only [evalOp, hop, opnd_congr he (x := x) (by simp), opnd_congr he (x := y) (by simp)]
  | makeMap t rs => cases rs <;> simp only [evalOp, hop]
  | lookup t x i ok =>
    have he := hop ▸ hE
    simp only [opsOf] at he
    have hx : ∀ {u : T}, opnd s (none) x = some u → ∀ i ∈ u.ids, σ' i = σ i := hi (l := [x, i]) (by rw [hop]; rfl) (x := x) (by simp)
    simp only [evalOp, hop, opnd_congr he (x := x) (by simp), opnd_congr he (x := i) (by simp)]
    cases C.mp t with
    | none => rfl
    | some kv =>
    cases h : opnd s none x with
    | none => rfl
    | some u =>
      cases u with
      | mapr id =>
        have := hx h id (by simp [T.ids])
        cases opnd s none i with
        | none => rfl
        | some v => simp only [this]
      | nilr q => rcases q with _ | _ | q <;> (cases opnd s none i <;> rfl)
      | _ => rfl
  | mapUpdate t x i z =>
    have he := hop ▸ hE
    simp only [opsOf] at he
    have hx : ∀ {u : T}, opnd s (none) x = some u → ∀ i ∈ u.ids, σ' i = σ i := hi (l := [x, i, z]) (by rw [hop]; rfl) (x := x) (by simp)
    simp only [evalOp, hop, opnd_congr he (x := x) (by simp), opnd_congr he (x := i) (by simp), opnd_congr he (x := z) (by simp)]
    cases C.mp t with
    | none => rfl
    | some kv =>
    cases h : opnd s none x with
    | none => rfl
    | some u =>
      cases u with
      | mapr id =>
        have := hx h id (by simp [T.ids])
        cases opnd s none i with
        | none => rfl
        | some v =>
          cases opnd s none z with
          | none => rfl
          | some q => simp only [this]
      | _ => rfl
  | call c =>
    have he := hop ▸ hE
    have hcl := hcl (by rw [hop]; rfl)
    cases hca : c.callee with
    | invoke x n => simp only [evalOp, hop, hca]
    | builtin b =>
      have eo : opsOf (.call c) = c.args.toList := by simp only [opsOf, hca, List.nil_append]
      rw [eo] at he
      have one : ∀ {x : Operand}, c.args.toList = [x] → opnd s' none x = opnd s none x ∧ ∀ {u : T}, opnd s none x = some u → ∀ i ∈ u.ids, σ' i = σ i := fun ha =>
        ⟨opnd_congr he (by rw [ha]; simp) _, hi (l := c.args.toList) (by rw [hop, eo]) (by rw [ha]; simp)⟩
      have two : ∀ {x y : Operand}, c.args.toList = [x, y] → (∀ k, opnd s' k x = opnd s k x) ∧ (∀ k, opnd s' k y = opnd s k y) ∧ (∀ {k : Option K} {u : T}, opnd s k x = some u → ∀ i ∈ u.ids, σ' i = σ i) ∧ (∀ {k : Option K} {u : T}, opnd s k y = some u → ∀ i ∈ u.ids, σ' i = σ i) := fun ha =>
        ⟨fun k => opnd_congr he (by rw [ha]; simp) _, fun k => opnd_congr he (by rw [ha]; simp) _, hi (l := c.args.toList) (by rw [hop, eo]) (by rw [ha]; simp), hi (l := c.args.toList) (by rw [hop, eo]) (by rw [ha]; simp)⟩
      simp only [evalOp, hop, hca]
      cases ha : c.args.toList with
      | nil => cases b <;> rfl
      | cons x r =>
        cases r with
        | nil =>
          cases b <;> first | rfl | skip
          obtain ⟨h1, h2⟩ := one ha
          simp only [h1]
          generalize h : opnd s none x = X at h2
          have hm : ∀ {u : T} {i : Nat}, X = some u → i ∈ u.ids → σ' i = σ i := fun e hi => h2 e _ hi
          split <;> first | rfl | (have this := hm rfl (List.mem_singleton.2 rfl); simp only [this])
        | cons y r =>
          cases r with
          | cons z r => cases b <;> rfl
          | nil =>
            obtain ⟨h1, h2, h3, h4⟩ := two ha
            cases b <;> first | rfl | skip
            · simp only [h1, h2]
              cases tyArg C c 0 with
              | none => rfl
              | some kk =>
                cases kk with
                | slice e =>
                  simp only []
                  cases hy : opnd s (C.ty o.type) y with
                  | none => rfl
                  | some ty =>
                    simp only [freeze_congr (h4 hy)]
                    cases hx : opnd s (C.ty o.type) x with
                    | none => rfl
                    | some u =>
                      cases u with
                      | row id => simp only [h3 hx id (by simp [T.ids])]
                      | _ => rfl
                | _ => rfl
            · simp only [h1, h2]
              cases c.argTypes.toList with
              | nil => rfl
              | cons t ts =>
                simp only []
                cases C.mp t with
                | none => rfl
                | some kv =>
                  cases hx : opnd s none x with
                  | none => rfl
                  | some u =>
                    cases u with
                    | mapr id =>
                      have := h3 hx id (by simp [T.ids])
                      cases opnd s none y with
                      | none => rfl
                      | some v => simp only [this]
                    | _ => rfl
            · simp only [h1, h2]
            · simp only [h1, h2]
    | value f =>
      have eo : opsOf (.call c) = f :: c.args.toList := by simp only [opsOf, hca, List.singleton_append]
      rw [eo] at he
      simp only [evalOp, hop, hca, opnd_congr he (x := f) (by simp)]
      cases h : opnd s none f with
      | none => rfl
      | some u =>
        cases u with
        | clo g caps =>
          simp only []
          rw [chainT_congr he fun x hx => List.mem_cons_of_mem _ hx]
          cases hq : chainT s (c.argTypes.toList.map C.ty) c.args.toList with
          | none => rfl
          | some args =>
            simp only []
            refine callsK_congr (Q := fun i => i ∈ rd) hσ (fun id c fz t q => hcl id c fz t q) fun i hm => ?_
            rcases chainT_ids (l := f :: c.args.toList) (fun x hx => List.mem_cons_of_mem _ hx) hq i hm with q | q
            · exact hrd i (by rw [hop, eo]; exact q)
            · exact hrd i (by rw [hop, eo]; exact opnd_ids (List.mem_cons_self) h i q)
        | _ => rfl
  | _ => simp only [evalOp, hop]
end
end Go.Proofs.D
