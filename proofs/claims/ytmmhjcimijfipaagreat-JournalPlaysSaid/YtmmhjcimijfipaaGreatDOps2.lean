/- Comparisons. -/
import Derived.Test.YtmmhjcimijfipaaGreatDMem
import Derived.Test.YtmmhjcimijfipaaGreatDOps1
import Derived.ChangeKeysEq
set_option linter.unusedVariables false
set_option linter.unusedSimpArgs false
namespace Go.Proofs.D
open Go.RowKit

section
variable {P : Program} {C : Ctx} {s : St} {a : Act} {w : World} {S : Cells} {m : Nat → Option MB} {R : Type} {κ : T → Ups → Option R} {r : R} {o : Oper} {ty : TypeId → Option K}

theorem shut_agg {cs : List Value} {v : Value} (h : Shut true cs v) : v = .agg cs.toArray := by simpa [Shut] using h

theorem eqFields_ok (hty : ∀ t c, ty t = some c → TyOk P ty t c) (d : Nat)
    (IH : ∀ (c : K) (t : TypeId) (x y : El c) (cx cy : List Value) (vx vy : Value), depthK c ≤ d → ty t = some c → c.flat = true → Rep w S c x cx → Rep w S c y cy → Shut c.isAgg cx vx → Shut c.isAgg cy vy →
      (Op.equalIn (d + 1) t vx vy).run P w = .ok (eqE c x y) w) :
    ∀ (fs : List Field) (c : K) (off : Nat) (x y : El c) (p q cx cy : List Value), FieldsOk ty fs c off → depthK c ≤ d + 1 → c.flat = true → p.length = off → q.length = off → Rep w S c x cx → Rep w S c y cy →
      (Op.eqFields (d + 1) (p ++ cx).toArray (q ++ cy).toArray fs).run P w = .ok (eqE c x y) w
  | [], .unit, off, x, y, p, q, cx, cy, _, _, _, _, _, _, _ => by simp [Op.eqFields, eqE]
  | f :: r, .cons ka kb, off, x, y, p, q, cx, cy, ⟨h1, h2, h3, h4⟩, hd, hf, hp, hq, ⟨x1, x2, ex, rx1, rx2⟩, ⟨y1, y2, ey, ry1, ry2⟩ => by
    simp only [K.flat, Bool.and_eq_true] at hf
    simp only [depthK] at hd
    subst ex; subst ey
    have hT := hty _ _ h2
    obtain ⟨va, pa, sa⟩ := hT.run_part (w := w) (xs := (p ++ (x1 ++ x2)).toArray) (off := f.offset) (cs := x1) (by rw [h1, ← hp]; simp [← Rep.length rx1]) (Rep.length rx1)
    obtain ⟨vb, pb, sb⟩ := hT.run_part (w := w) (xs := (q ++ (y1 ++ y2)).toArray) (off := f.offset) (cs := y1) (by rw [h1, ← hq]; simp [← Rep.length ry1]) (Rep.length ry1)
    have he := IH ka f.type x.1 y.1 x1 y1 va vb (by omega) h2 hf.1 rx1 ry1 sa sb
    have hr := eqFields_ok hty d IH r kb (off + ka.size) x.2 y.2 (p ++ x1) (q ++ y1) x2 y2 h4 (by omega) hf.2 (by simp [hp, Rep.length rx1]) (by simp [hq, Rep.length ry1]) rx2 ry2
    simp only [List.append_assoc] at hr
    simp only [Op.eqFields, ne_eq, h3, not_false_eq_true, if_true, Sem.run_bind, pa, pb, he, Result.andThen_ok, eqE]
    cases eqE ka x.1 y.1 with
    | false => simp
    | true => simpa using hr
  | [], .cons _ _, _, _, _, _, _, _, _, h, _, _, _, _, _, _ => h.elim
  | _ :: _, .unit, _, _, _, _, _, _, _, h, _, _, _, _, _, _ => h.elim
  | [], .int _, _, _, _, _, _, _, _, h, _, _, _, _, _, _ => h.elim
  | [], .bool, _, _, _, _, _, _, _, h, _, _, _, _, _, _ => h.elim
  | [], .str, _, _, _, _, _, _, _, h, _, _, _, _, _, _ => h.elim
  | [], .hdr, _, _, _, _, _, _, _, h, _, _, _, _, _, _ => h.elim
  | [], .ref _, _, _, _, _, _, _, _, h, _, _, _, _, _, _ => h.elim
  | [], .slice _, _, _, _, _, _, _, _, h, _, _, _, _, _, _ => h.elim
  | [], .arr _ _, _, _, _, _, _, _, _, h, _, _, _, _, _, _ => h.elim
  | _ :: _, .int _, _, _, _, _, _, _, _, h, _, _, _, _, _, _ => h.elim
  | _ :: _, .bool, _, _, _, _, _, _, _, h, _, _, _, _, _, _ => h.elim
  | _ :: _, .str, _, _, _, _, _, _, _, h, _, _, _, _, _, _ => h.elim
  | _ :: _, .hdr, _, _, _, _, _, _, _, h, _, _, _, _, _, _ => h.elim
  | _ :: _, .ref _, _, _, _, _, _, _, _, h, _, _, _, _, _, _ => h.elim
  | _ :: _, .slice _, _, _, _, _, _, _, _, h, _, _, _, _, _, _ => h.elim
  | _ :: _, .arr _ _, _, _, _, _, _, _, _, h, _, _, _, _, _, _ => h.elim

theorem eqItems_ok {te : TypeId} {e : K} (hT : TyOk P ty te e) (d : Nat)
    (IH : ∀ (x y : El e) (cx cy : List Value) (vx vy : Value), Rep w S e x cx → Rep w S e y cy → Shut e.isAgg cx vx → Shut e.isAgg cy vy → (Op.equalIn d te vx vy).run P w = .ok (eqE e x y) w) :
    ∀ (l k : List (El e)) (i : Nat) (p q cx cy : List Value), l.length = k.length → p.length = i * e.size → q.length = i * e.size → RepL (Rep w S e) l cx → RepL (Rep w S e) k cy →
      (Op.eqItems d te e.size (p ++ cx).toArray (q ++ cy).toArray (List.range' i l.length)).run P w = .ok (eqE.eqL (eqE e) l k) w
  | [], [], i, p, q, cx, cy, _, _, _, _, _ => by simp [Op.eqItems, eqE.eqL]
  | x :: l, y :: k, i, p, q, cx, cy, hl, hp, hq, ⟨x1, x2, ex, rx1, rx2⟩, ⟨y1, y2, ey, ry1, ry2⟩ => by
    subst ex; subst ey
    obtain ⟨va, pa, sa⟩ := hT.run_part (w := w) (xs := (p ++ (x1 ++ x2)).toArray) (off := i * e.size) (cs := x1) (by rw [← hp]; simp [← Rep.length rx1]) (Rep.length rx1)
    obtain ⟨vb, pb, sb⟩ := hT.run_part (w := w) (xs := (q ++ (y1 ++ y2)).toArray) (off := i * e.size) (cs := y1) (by rw [← hq]; simp [← Rep.length ry1]) (Rep.length ry1)
    have he := IH x y x1 y1 va vb rx1 ry1 sa sb
    have hr := eqItems_ok hT d IH l k (i + 1) (p ++ x1) (q ++ y1) x2 y2 (by simpa using hl) (by simp [hp, Rep.length rx1, Nat.add_mul]) (by simp [hq, Rep.length ry1, Nat.add_mul]) rx2 ry2
    simp only [List.append_assoc] at hr
    simp only [List.length_cons, List.range'_succ, Op.eqItems, Sem.run_bind, pa, pb, he, Result.andThen_ok, eqE.eqL]
    cases eqE e x y with
    | false => simp
    | true => simpa using hr
  | [], _ :: _, _, _, _, _, _, h, _, _, _, _ => by simp at h
  | _ :: _, [], _, _, _, _, _, h, _, _, _, _ => by simp at h

theorem equalIn_ok (hty : ∀ t c, ty t = some c → TyOk P ty t c) : ∀ (d : Nat) (c : K) (t : TypeId) (x y : El c) (cx cy : List Value) (vx vy : Value), depthK c ≤ d → ty t = some c → c.flat = true →
    Rep w S c x cx → Rep w S c y cy → Shut c.isAgg cx vx → Shut c.isAgg cy vy → (Op.equalIn (d + 1) t vx vy).run P w = .ok (eqE c x y) w := by
  intro d
  induction d with
  | zero =>
    intro c t x y cx cy vx vy hd ht hf hx hy sx sy
    have hT := hty _ _ ht
    have hD := hT.desc
    cases c with
    | int k =>
      simp only [Rep] at hx hy; subst hx; subst hy; simp [Shut, K.isAgg] at sx sy; subst sx; subst sy
      exact run_equalIn_int w _ _ _ _ _ _ hD
    | bool =>
      simp only [Rep] at hx hy; subst hx; subst hy; simp [Shut, K.isAgg] at sx sy; subst sx; subst sy
      exact run_equalIn_bool w _ _ _ _ hD
    | str =>
      simp only [Rep] at hx hy; subst hx; subst hy; simp [Shut, K.isAgg] at sx sy; subst sx; subst sy
      rw [run_equalIn_string w _ _ _ _ hD]; simp [eqE, beq_toListBytes]
    | unit =>
      obtain ⟨fs, h1, h2⟩ := hD
      rw [shut_agg sx, shut_agg sy, run_equalIn_struct w _ _ _ _ (by rw [h1]; simp [Program.fieldsOf, h1]) (hT.eqg hf).2.1]
      have : fs.toList = [] := by
        cases hfs : fs.toList with
        | nil => rfl
        | cons f r => rw [hfs] at h2; exact h2.elim
      simp [Program.fieldsOf, h1, this, Op.eqFields, eqE]
    | cons a b => simp [depthK] at hd
    | arr n e => simp [depthK] at hd
    | _ => simp [K.flat] at hf
  | succ d IH =>
    intro c t x y cx cy vx vy hd ht hf hx hy sx sy
    have hT := hty _ _ ht
    have hD := hT.desc
    cases c with
    | int k =>
      simp only [Rep] at hx hy; subst hx; subst hy; simp [Shut, K.isAgg] at sx sy; subst sx; subst sy
      exact run_equalIn_int w _ _ _ _ _ _ hD
    | bool =>
      simp only [Rep] at hx hy; subst hx; subst hy; simp [Shut, K.isAgg] at sx sy; subst sx; subst sy
      exact run_equalIn_bool w _ _ _ _ hD
    | str =>
      simp only [Rep] at hx hy; subst hx; subst hy; simp [Shut, K.isAgg] at sx sy; subst sx; subst sy
      rw [run_equalIn_string w _ _ _ _ hD]; simp [eqE, beq_toListBytes]
    | unit =>
      obtain ⟨fs, h1, h2⟩ := hD
      rw [shut_agg sx, shut_agg sy, run_equalIn_struct w _ _ _ _ (by rw [h1]; simp [Program.fieldsOf, h1]) (hT.eqg hf).2.1]
      have : fs.toList = [] := by
        cases hfs : fs.toList with
        | nil => rfl
        | cons f r => rw [hfs] at h2; exact h2.elim
      simp [Program.fieldsOf, h1, this, Op.eqFields, eqE]
    | cons ka kb =>
      obtain ⟨fs, h1, h2⟩ := hD
      rw [shut_agg sx, shut_agg sy, run_equalIn_struct w _ _ _ _ (by rw [h1]; simp [Program.fieldsOf, h1]) (hT.eqg hf).2.1]
      have := eqFields_ok (w := w) (S := S) hty d (fun c t => IH c t) fs.toList (.cons ka kb) 0 x y [] [] cx cy h2 hd hf rfl rfl hx hy
      simpa [Program.fieldsOf, h1] using this
    | arr n e =>
      obtain ⟨te, h1, h2⟩ := hD
      have hE := hty _ _ h2
      obtain ⟨i, h3, h4, _⟩ := hE.info
      rw [shut_agg sx, shut_agg sy, run_equalIn_array w (d + 1) _ _ h1 h3]
      simp only [depthK] at hd
      have hfe : e.flat = true := by simpa [K.flat] using hf
      have := eqItems_ok (w := w) (S := S) hE (d + 1) (fun x y cx cy vx vy => IH e te x y cx cy vx vy (by omega) h2 hfe) x y 0 [] [] cx cy (by rw [hx.1, hy.1]) (by simp) (by simp) hx.2 hy.2
      rw [hx.1] at this
      have hce : P.cellsOf te = e.size := by simp [Program.cellsOf, h3, h4]
      rw [hce, List.range_eq_range']
      simpa [eqE] using this
    | _ => simp [K.flat] at hf

theorem eqGuard_agg (op : BinOp) {t : TypeId} (x y : Operand) (p q : Array Value) (h : P.eqGuardType P.depth t = false) : (eqGuard op t x y (.agg p) (.agg q)).run P w = .ok () w := by
  unfold eqGuard; cases op <;> simp [Sem.run_bind, run_program, h]

theorem eqGuard_fn (op : BinOp) (t : TypeId) (x y : Operand) (f : Fn) (p q : Array Value) : (eqGuard op t x y (.func f p q) .nilFunc).run P w = .ok () w := by
  unfold eqGuard; split <;> simp
theorem eqGuard_nilfn (op : BinOp) (t : TypeId) (x y : Operand) : (eqGuard op t x y .nilFunc .nilFunc).run P w = .ok () w := by
  unfold eqGuard; split <;> simp

theorem repV_nilr {k : Nat} {v : Value} (h : RepV w S m (.nilr k) v) : (k = 0 ∧ v = .pointer none) ∨ (k = 1 ∧ v = .map none) ∨ (2 ≤ k ∧ v = .nilFunc) := by
  obtain ⟨cs, h1, h2⟩ := of_repV rfl h
  rcases h1 with ⟨h, e⟩ | ⟨h, e⟩ | ⟨h, e⟩ <;> subst e <;> simp [Shut, T.isAgg] at h2 <;> subst h2 <;> simp_all
theorem repV_mapr {i : Nat} {v : Value} (h : RepV w S m (.mapr i) v) : ∃ u k, m i = some u ∧ v = .map (some k) ∧ v = u.hv := by
  obtain ⟨cs, ⟨u, h1, h3, k, h4⟩, h2⟩ := of_repV rfl h
  subst h3; simp [Shut, T.isAgg] at h2; subst h2
  exact ⟨u, k, h1, h4, rfl⟩
theorem repV_clo {f : FuncId} {c : T} {v : Value} (h : RepV w S m (.clo f c) v) : ∃ vs, RepC w S m c vs ∧ v = cloV f vs := by
  obtain ⟨cs, ⟨vs, h1, h3⟩, h2⟩ := of_repV rfl h
  subst h3; simp [Shut, T.isAgg] at h2; subst h2
  exact ⟨vs, h1, rfl⟩

theorem eqIn_ptr (d : Nat) {t te : TypeId} (h : P.underlying t = some (.pointer te)) (p : Option Addr) : (Op.equalIn (d + 1) t (.pointer p) (.pointer none)).run P w = .ok p.isNone w := by
  cases p <;> simp [Op.equalIn, run_underlying h]
theorem eqIn_map (d : Nat) {t k te : TypeId} (h : P.underlying t = some (.map k te)) (p : Option Nat) : (Op.equalIn (d + 1) t (.map p) (.map none)).run P w = .ok p.isNone w := by
  cases p <;> simp [Op.equalIn, run_underlying h]
theorem eqIn_fn (d : Nat) {t : TypeId} {x y : Array TypeId} {z : Bool} (h : P.underlying t = some (.func x y z)) (f : Fn) (p q : Array Value) : (Op.equalIn (d + 1) t (.func f p q) .nilFunc).run P w = .ok false w := by
  simp [Op.equalIn, run_underlying h]
theorem eqIn_nilfn (d : Nat) {t : TypeId} {x y : Array TypeId} {z : Bool} (h : P.underlying t = some (.func x y z)) : (Op.equalIn (d + 1) t .nilFunc .nilFunc).run P w = .ok true w := by
  simp [Op.equalIn, run_underlying h]

/-- An equality told by Op.equal. -/
theorem ok_eql (hr : Rel s a.tmps w S m) {op : BinOp} {t t' : TypeId} {x y : Operand} (ho : o.op = .binOp op t x y t') {q : Bool} (hk : eqlK op q (fun t => κ t []) = some r)
    (hg : ∀ op, (eqGuard op t x y (a.eval x) (a.eval y)).run P w = .ok () w) (hb1 : ∀ t, binOp .eql t (a.eval x) (a.eval y) = (Op.equal t (a.eval x) (a.eval y) >>= fun q => pure (Value.bool q)))
    (hb2 : ∀ t, binOp .neq t (a.eval x) (a.eval y) = (Op.equal t (a.eval x) (a.eval y) >>= fun q => pure (Value.bool (!q)))) (he : (Op.equal t (a.eval x) (a.eval y)).run P w = .ok q w) : Ok P s a w S m o κ r := by
  rcases eqlK_ok hk with ⟨h1, h2⟩ | ⟨h1, h2⟩
  · subst h1
    exact Ok.pure hr h2 (repV_mkBool _) (by simp [execOp, ho, Sem.run_bind, hg, hb1, he])
  · subst h1
    exact Ok.pure hr h2 (repV_mkBool _) (by simp [execOp, ho, Sem.run_bind, hg, hb2, he])

theorem ok_binOp (hC : CtxOk P C) (hr : Rel s a.tmps w S m) {op : BinOp} {t t' : TypeId} {x y : Operand} (ho : o.op = .binOp op t x y t') (he : evalOp C o s.env s.sto κ = some r) : Ok P s a w S m o κ r := by
  simp only [evalOp, ho] at he
  split at he
  case h_2 => cases he
  rename_i tx ty hx hy
  have vx := opnd_ok hr hx
  have vy := opnd_ok hr hy
  unfold binK at he
  split at he
  · have e1 := repV_int vx
    have e2 := repV_int vy
    cases hs : isShift op with
    | true =>
      simp only [hs, cond_true] at he
      rename_i k1 p1 k2 q1 _
      obtain ⟨t2, v, h1, h2, h3⟩ := shiftK_ok (P := P) (w := w) (k' := q1) he
      exact Ok.pure hr h1 (h2 _ _) (by simp [execOp, ho, e1, e2, Sem.run_bind, eqGuard_int, h3])
    | false =>
      simp only [hs, cond_false] at he
      obtain ⟨hk, he⟩ := bif_some he
      simp only [decide_eq_true_eq] at hk; subst hk
      obtain ⟨t2, v, h1, h2, h3⟩ := arith_ok (P := P) (w := w) hs he
      exact Ok.pure hr h1 (h2 _ _) (by simp [execOp, ho, e1, e2, Sem.run_bind, eqGuard_int, h3])
  · rename_i b1 b2 ht
    have e1 := repV_bool vx
    have e2 := repV_bool vy
    exact ok_eql hr ho he (fun op => by rw [e1, e2]; exact eqGuard_bool op t x y _ _) (fun t => by rw [e1, e2]; rfl) (fun t => by rw [e1, e2]; rfl) (by
      rw [e1, e2]; exact run_equalIn_bool w _ _ _ _ (hC.ty _ _ ht).desc)
  · rename_i b1 b2 ht
    have e1 := repV_str vx
    have e2 := repV_str vy
    rcases eqlK_ok he with ⟨h1, h2⟩ | ⟨h1, h2⟩
    · subst h1; exact Ok.pure hr h2 (repV_mkBool _) (by simp [execOp, ho, e1, e2, Sem.run_bind, eqGuard_str, binOp, Op.stringOp])
    · subst h1; exact Ok.pure hr h2 (repV_mkBool _) (by simp [execOp, ho, e1, e2, Sem.run_bind, eqGuard_str, binOp, Op.stringOp])
  · rename_i i p ht
    obtain ⟨u, _, e1⟩ := repV_ptr vx
    have e2 : a.eval y = .pointer none := by rcases repV_nilr vy with ⟨_, h⟩ | ⟨h, _⟩ | ⟨h, _⟩ <;> first | exact h | omega
    obtain ⟨te, hte⟩ := (hC.ty _ _ ht).desc
    exact ok_eql hr ho he (fun op => by rw [e1, e2]; exact eqGuard_ptr op t x y _ _) (fun t => by rw [e1, e2]; rfl) (fun t => by rw [e1, e2]; rfl) (by
      rw [e1, e2]; exact eqIn_ptr 9999 hte _)
  · rename_i i p ht
    obtain ⟨b, q, ds, e1, _⟩ := repV_rptr vx
    have e2 : a.eval y = .pointer none := by rcases repV_nilr vy with ⟨_, h⟩ | ⟨h, _⟩ | ⟨h, _⟩ <;> first | exact h | omega
    obtain ⟨te, hte⟩ := (hC.ty _ _ ht).desc
    exact ok_eql hr ho he (fun op => by rw [e1, e2]; exact eqGuard_ptr op t x y _ _) (fun t => by rw [e1, e2]; rfl) (fun t => by rw [e1, e2]; rfl) (by
      rw [e1, e2]; exact eqIn_ptr 9999 hte _)
  · rename_i i ht
    obtain ⟨u, k, _, e1, _⟩ := repV_mapr vx
    have e2 : a.eval y = .map none := by rcases repV_nilr vy with ⟨h, _⟩ | ⟨_, h⟩ | ⟨h, _⟩ <;> first | exact h | omega
    obtain ⟨te, te', hte⟩ := (hC.ty _ _ ht).desc
    exact ok_eql hr ho he (fun op => by rw [e1, e2]; exact eqGuard_map op t x y _ _) (fun t => by rw [e1, e2]; rfl) (fun t => by rw [e1, e2]; rfl) (by
      rw [e1, e2]; exact eqIn_map 9999 hte _)
  · rename_i f c ht
    obtain ⟨vs, _, e1⟩ := repV_clo vx
    obtain ⟨g', p', q', e1'⟩ := cloV_form f vs
    rw [e1'] at e1
    have e2 : a.eval y = .nilFunc := by rcases repV_nilr vy with ⟨h, _⟩ | ⟨h, _⟩ | ⟨_, h⟩ <;> first | exact h | omega
    obtain ⟨ta, tb, tc, hte⟩ := (hC.ty _ _ ht).desc
    exact ok_eql hr ho he (fun op => by rw [e1, e2]; exact eqGuard_fn op t x y _ _ _) (fun t => by rw [e1, e2]; rfl) (fun t => by rw [e1, e2]; rfl) (by
      rw [e1, e2]; exact eqIn_fn 9999 hte _ _ _)
  · rename_i ht
    have e1 : a.eval x = .pointer none := by rcases repV_nilr vx with ⟨_, h⟩ | ⟨h, _⟩ | ⟨h, _⟩ <;> first | exact h | omega
    have e2 : a.eval y = .pointer none := by rcases repV_nilr vy with ⟨_, h⟩ | ⟨h, _⟩ | ⟨h, _⟩ <;> first | exact h | omega
    obtain ⟨te, hte⟩ := (hC.ty _ _ ht).desc
    exact ok_eql hr ho he (fun op => by rw [e1, e2]; exact eqGuard_ptr op t x y _ _) (fun t => by rw [e1, e2]; rfl) (fun t => by rw [e1, e2]; rfl) (by
      rw [e1, e2]; exact eqIn_ptr 9999 hte _)
  · rename_i ht
    have e1 : a.eval x = .map none := by rcases repV_nilr vx with ⟨h, _⟩ | ⟨_, h⟩ | ⟨h, _⟩ <;> first | exact h | omega
    have e2 : a.eval y = .map none := by rcases repV_nilr vy with ⟨h, _⟩ | ⟨_, h⟩ | ⟨h, _⟩ <;> first | exact h | omega
    obtain ⟨te, te', hte⟩ := (hC.ty _ _ ht).desc
    exact ok_eql hr ho he (fun op => by rw [e1, e2]; exact eqGuard_map op t x y _ _) (fun t => by rw [e1, e2]; rfl) (fun t => by rw [e1, e2]; rfl) (by
      rw [e1, e2]; exact eqIn_map 9999 hte _)
  · rename_i ht
    have e1 : a.eval x = .nilFunc := by rcases repV_nilr vx with ⟨h, _⟩ | ⟨h, _⟩ | ⟨_, h⟩ <;> first | exact h | omega
    have e2 : a.eval y = .nilFunc := by rcases repV_nilr vy with ⟨h, _⟩ | ⟨h, _⟩ | ⟨_, h⟩ <;> first | exact h | omega
    obtain ⟨ta, tb, tc, hte⟩ := (hC.ty _ _ ht).desc
    exact ok_eql hr ho he (fun op => by rw [e1, e2]; exact eqGuard_nilfn op t x y) (fun t => by rw [e1, e2]; rfl) (fun t => by rw [e1, e2]; rfl) (by
      rw [e1, e2]; exact eqIn_nilfn 9999 hte)
  · rename_i ka kb ux c v d ht
    obtain ⟨hf, he2⟩ := bif_some he
    clear he
    simp only [Bool.and_eq_true, decide_eq_true_eq] at hf
    obtain ⟨hf, hd⟩ := hf
    subst hd
    split at he2
    · rename_i z hz
      obtain ⟨e, hz⟩ := castE_some hz
      subst e; subst hz
      obtain ⟨cx, rx, sx⟩ := of_repV rfl vx
      obtain ⟨cy, ry, sy⟩ := of_repV rfl vy
      have hT := hC.ty _ _ ht
      have e1 := shut_agg sx
      have e2 := shut_agg sy
      have hq := equalIn_ok hC.ty 9999 _ t _ _ cx cy _ _ (by have := (hT.eqg hf).2.2; omega) ht hf rx ry sx sy
      exact ok_eql hr ho he2 (fun op => by rw [e1, e2]; exact eqGuard_agg op x y _ _ (hT.eqg hf).1) (fun t => by rw [e1, e2]; rfl) (fun t => by rw [e1, e2]; rfl) hq
    · cases he2
  · rename_i n e ux c v d ht
    obtain ⟨hf, he2⟩ := bif_some he
    clear he
    simp only [Bool.and_eq_true, decide_eq_true_eq] at hf
    obtain ⟨hf, hd⟩ := hf
    subst hd
    split at he2
    · rename_i z hz
      obtain ⟨e, hz⟩ := castE_some hz
      subst e; subst hz
      obtain ⟨cx, rx, sx⟩ := of_repV rfl vx
      obtain ⟨cy, ry, sy⟩ := of_repV rfl vy
      have hT := hC.ty _ _ ht
      have e1 := shut_agg sx
      have e2 := shut_agg sy
      have hq := equalIn_ok hC.ty 9999 _ t _ _ cx cy _ _ (by have := (hT.eqg hf).2.2; omega) ht hf rx ry sx sy
      exact ok_eql hr ho he2 (fun op => by rw [e1, e2]; exact eqGuard_agg op x y _ _ (hT.eqg hf).1) (fun t => by rw [e1, e2]; rfl) (fun t => by rw [e1, e2]; rfl) hq
    · cases he2
  · cases he
end
end Go.Proofs.D
