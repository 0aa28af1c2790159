/- Maps: made, looked up, put into. Keys are flat. -/
import Derived.Test.YtmmhjcimijfipaaGreatDApp
import Derived.MapKept
set_option linter.unusedVariables false
set_option linter.unusedSimpArgs false
namespace Go.Proofs.D
open Go.RowKit Go.MapKept

section
variable {P : Program} {C : Ctx} {s : St} {a : Act} {w w' : World} {S S' : Cells} {m m' : Nat → Option MB} {R : Type} {κ : T → Ups → Option R} {r : R} {o : Oper} {σ : Nat → Option Obj} {ty : TypeId → Option K}

/-! ### Keys -/
theorem chkFields_ok (hty : ∀ t c, ty t = some c → TyOk P ty t c) (em : Bool) (d : Nat)
    (IH : ∀ (c : K) (t : TypeId) (x : El c) (cx : List Value) (vx : Value), depthK c ≤ d → ty t = some c → c.flat = true → Rep w S c x cx → Shut c.isAgg cx vx → (Instr.checkKey em (d + 1) t vx).run P w = .ok () w) :
    ∀ (fs : List Field) (c : K) (off : Nat) (x : El c) (p cx : List Value), FieldsOk ty fs c off → depthK c ≤ d + 1 → c.flat = true → p.length = off → Rep w S c x cx →
      (forIn fs PUnit.unit (fun f _ => (if f.name ≠ "_" then (do let x ← part f.type (p ++ cx).toArray f.offset; Instr.checkKey em (d + 1) f.type x; pure (ForInStep.yield PUnit.unit)) else pure (ForInStep.yield PUnit.unit) : Sem (ForInStep PUnit)))).run P w = .ok PUnit.unit w
  | [], .unit, off, x, p, cx, _, _, _, _, _ => by simp
  | f :: r, .cons ka kb, off, x, p, cx, ⟨h1, h2, h3, h4⟩, hd, hf, hp, ⟨x1, x2, ex, rx1, rx2⟩ => by
    simp only [K.flat, Bool.and_eq_true] at hf
    simp only [depthK] at hd
    subst ex
    have hT := hty _ _ h2
    obtain ⟨va, pa, sa⟩ := hT.run_part (w := w) (xs := (p ++ (x1 ++ x2)).toArray) (off := f.offset) (cs := x1) (by rw [h1, ← hp]; simp [← Rep.length rx1]) (Rep.length rx1)
    have he := IH ka f.type x.1 x1 va (by omega) h2 hf.1 rx1 sa
    have hr := chkFields_ok hty em d IH r kb (off + ka.size) x.2 (p ++ x1) x2 h4 (by omega) hf.2 (by simp [hp, Rep.length rx1]) rx2
    simp only [List.append_assoc] at hr
    simp only [List.forIn_cons, Sem.run_bind, ne_eq, h3, not_false_eq_true, if_true, pa, he, Result.andThen_ok, Sem.run_pure]
    exact hr
  | [], .cons _ _, _, _, _, _, h, _, _, _, _ => h.elim
  | _ :: _, .unit, _, _, _, _, h, _, _, _, _ => h.elim
  | [], .int _, _, _, _, _, h, _, _, _, _ => h.elim
  | [], .bool, _, _, _, _, h, _, _, _, _ => h.elim
  | [], .str, _, _, _, _, h, _, _, _, _ => h.elim
  | [], .hdr, _, _, _, _, h, _, _, _, _ => h.elim
  | [], .ref _, _, _, _, _, h, _, _, _, _ => h.elim
  | [], .slice _, _, _, _, _, h, _, _, _, _ => h.elim
  | [], .arr _ _, _, _, _, _, h, _, _, _, _ => h.elim
  | _ :: _, .int _, _, _, _, _, h, _, _, _, _ => h.elim
  | _ :: _, .bool, _, _, _, _, h, _, _, _, _ => h.elim
  | _ :: _, .str, _, _, _, _, h, _, _, _, _ => h.elim
  | _ :: _, .hdr, _, _, _, _, h, _, _, _, _ => h.elim
  | _ :: _, .ref _, _, _, _, _, h, _, _, _, _ => h.elim
  | _ :: _, .slice _, _, _, _, _, h, _, _, _, _ => h.elim
  | _ :: _, .arr _ _, _, _, _, _, h, _, _, _, _ => h.elim

theorem chkItems_ok {te : TypeId} {e : K} (hT : TyOk P ty te e) (em : Bool) (d : Nat)
    (IH : ∀ (x : El e) (cx : List Value) (vx : Value), Rep w S e x cx → Shut e.isAgg cx vx → (Instr.checkKey em d te vx).run P w = .ok () w) :
    ∀ (l : List (El e)) (i : Nat) (p cx : List Value), p.length = i * e.size → RepL (Rep w S e) l cx →
      (forIn (List.range' i l.length) PUnit.unit (fun i _ => (do Instr.checkKey em d te (← part te (p ++ cx).toArray (i * (← sizeOf te))); pure (ForInStep.yield PUnit.unit) : Sem (ForInStep PUnit)))).run P w = .ok PUnit.unit w
  | [], i, p, cx, _, _ => by simp
  | x :: l, i, p, cx, hp, ⟨x1, x2, ex, rx1, rx2⟩ => by
    subst ex
    obtain ⟨va, pa, sa⟩ := hT.run_part (w := w) (xs := (p ++ (x1 ++ x2)).toArray) (off := i * e.size) (cs := x1) (by rw [← hp]; simp [← Rep.length rx1]) (Rep.length rx1)
    have he := IH x x1 va rx1 sa
    have hr := chkItems_ok hT em d IH l (i + 1) (p ++ x1) x2 (by simp [hp, Rep.length rx1, Nat.add_mul]) rx2
    simp only [List.append_assoc] at hr
    simp only [List.length_cons, List.range'_succ, List.forIn_cons, Sem.run_bind, hT.run_size, pa, he, Result.andThen_ok, Sem.run_pure]
    exact hr

theorem checkKey_ok (hty : ∀ t c, ty t = some c → TyOk P ty t c) (em : Bool) : ∀ (d : Nat) (c : K) (t : TypeId) (x : El c) (cx : List Value) (vx : Value), depthK c ≤ d → ty t = some c → c.flat = true →
    Rep w S c x cx → Shut c.isAgg cx vx → (Instr.checkKey em (d + 1) t vx).run P w = .ok () w := by
  have base : ∀ (d : Nat) (c : K) (t : TypeId) (x : El c) (cx : List Value) (vx : Value), c.isAgg = false → ty t = some c → c.flat = true → Rep w S c x cx → Shut c.isAgg cx vx → (Instr.checkKey em (d + 1) t vx).run P w = .ok () w := by
    intro d c t x cx vx ha ht hf hx sx
    have hD := (hty _ _ ht).desc
    cases c with
    | int k => simp only [Rep] at hx; subst hx; simp [Shut, K.isAgg] at sx; subst sx; exact run_checkKey hD (by rfl) em d
    | bool => simp only [Rep] at hx; subst hx; simp [Shut, K.isAgg] at sx; subst sx; exact run_checkKey hD (by trivial) em d
    | str => simp only [Rep] at hx; subst hx; simp [Shut, K.isAgg] at sx; subst sx; exact run_checkKey hD (by trivial) em d
    | ref r => simp [K.flat] at hf
    | hdr => simp [K.flat] at hf
    | slice e => simp [K.flat] at hf
    | unit => cases ha
    | cons a b => cases ha
    | arr n e => cases ha
  intro d
  induction d with
  | zero =>
    intro c t x cx vx hd ht hf hx sx
    cases hc : c.isAgg with
    | false => exact base 0 c t x cx vx hc ht hf hx sx
    | true =>
      have hD := (hty _ _ ht).desc
      cases c with
      | unit =>
        obtain ⟨fs, h1, h2⟩ := hD
        rw [shut_agg sx]
        have : fs.toList = [] := by
          cases hfs : fs.toList with
          | nil => rfl
          | cons f r => rw [hfs] at h2; exact h2.elim
        simp only [Instr.checkKey, Sem.run_bind, run_underlying h1, Result.andThen_ok]
        rw [← Array.forIn_toList, this]
        simp
      | cons a b => simp [depthK] at hd
      | arr n e => simp [depthK] at hd
      | _ => cases hc
  | succ d IH =>
    intro c t x cx vx hd ht hf hx sx
    cases hc : c.isAgg with
    | false => exact base _ c t x cx vx hc ht hf hx sx
    | true =>
      have hD := (hty _ _ ht).desc
      cases c with
      | unit =>
        obtain ⟨fs, h1, h2⟩ := hD
        rw [shut_agg sx]
        have : fs.toList = [] := by
          cases hfs : fs.toList with
          | nil => rfl
          | cons f r => rw [hfs] at h2; exact h2.elim
        simp only [Instr.checkKey, Sem.run_bind, run_underlying h1, Result.andThen_ok]
        rw [← Array.forIn_toList, this]
        simp
      | cons ka kb =>
        obtain ⟨fs, h1, h2⟩ := hD
        rw [shut_agg sx]
        have := chkFields_ok (w := w) (S := S) hty em d (fun c t => IH c t) fs.toList (.cons ka kb) 0 x [] cx h2 hd hf rfl hx
        rw [Instr.checkKey]
        simp only [Sem.run_bind, run_underlying h1, Result.andThen_ok]
        rw [← Array.forIn_toList]
        simp only [List.nil_append] at this
        rw [this]; rfl
      | arr n e =>
        obtain ⟨te, h1, h2⟩ := hD
        have hE := hty _ _ h2
        rw [shut_agg sx]
        simp only [depthK] at hd
        have hfe : e.flat = true := by simpa [K.flat] using hf
        have := chkItems_ok (w := w) (S := S) hE em (d + 1) (fun x cx vx => IH e te x cx vx (by omega) h2 hfe) x 0 [] cx (by simp) hx.2
        rw [hx.1] at this
        rw [Instr.checkKey]
        simp only [Sem.run_bind, run_underlying h1, Result.andThen_ok]
        simp only [Std.Legacy.Range.forIn_eq_forIn_range', Std.Legacy.Range.size, Nat.sub_zero, Nat.add_one_sub_one, Nat.div_one]
        simp only [List.nil_append, bind_pure_comp] at this ⊢
        rw [this]; rfl
      | _ => cases hc

theorem eqE_eq : ∀ {c : K} {x y : El c}, c.flat = true → eqE c x y = true → x = y
  | .int _, x, y, _, h => by simpa [eqE] using h
  | .bool, x, y, _, h => by simpa [eqE] using h
  | .str, x, y, _, h => (bytes_beq x y).1 h
  | .hdr, _, _, h, _ => by simp [K.flat] at h
  | .ref _, _, _, h, _ => by simp [K.flat] at h
  | .slice _, _, _, h, _ => by simp [K.flat] at h
  | .unit, _, _, _, _ => rfl
  | .cons a b, x, y, hf, h => by
    simp only [K.flat, Bool.and_eq_true] at hf
    simp only [eqE, Bool.and_eq_true] at h
    exact Prod.ext (eqE_eq hf.1 h.1) (eqE_eq hf.2 h.2)
  | .arr n e, x, y, hf, h => by
    have he : e.flat = true := by simpa [K.flat] using hf
    have go : ∀ (l k : List (El e)), eqE.eqL (eqE e) l k = true → l = k := by
      intro l
      induction l with
      | nil => intro k hk; cases k with
        | nil => rfl
        | cons _ _ => simp [eqE.eqL] at hk
      | cons a l ih => intro k hk; cases k with
        | nil => simp [eqE.eqL] at hk
        | cons b k =>
          simp only [eqE.eqL, Bool.and_eq_true] at hk
          rw [eqE_eq he hk.1, ih k hk.2]
    exact go x y h

theorem RepL.det {α : Type} {Q : α → List Value → Prop} (hQ : ∀ x c1 c2, Q x c1 → Q x c2 → c1 = c2) : ∀ {l : List α} {c1 c2 : List Value}, RepL Q l c1 → RepL Q l c2 → c1 = c2
  | [], _, _, h1, h2 => h1.trans h2.symm
  | x :: l, _, _, ⟨a1, a2, e1, h1, h2⟩, ⟨b1, b2, e2, k1, k2⟩ => by subst e1; subst e2; rw [hQ x _ _ h1 k1, RepL.det hQ h2 k2]

theorem Rep.det : ∀ {c : K} {x : El c} {c1 c2 : List Value}, c.flat = true → Rep w S c x c1 → Rep w S c x c2 → c1 = c2
  | .int _, _, _, _, _, h1, h2 => Eq.trans h1 (Eq.symm h2)
  | .bool, _, _, _, _, h1, h2 => Eq.trans h1 (Eq.symm h2)
  | .str, _, _, _, _, h1, h2 => Eq.trans h1 (Eq.symm h2)
  | .hdr, _, _, _, h, _, _ => by simp [K.flat] at h
  | .ref _, _, _, _, h, _, _ => by simp [K.flat] at h
  | .slice _, _, _, _, h, _, _ => by simp [K.flat] at h
  | .unit, _, _, _, _, h1, h2 => Eq.trans h1 (Eq.symm h2)
  | .cons a b, x, _, _, hf, ⟨a1, a2, e1, h1, h2⟩, ⟨b1, b2, e2, k1, k2⟩ => by
    simp only [K.flat, Bool.and_eq_true] at hf
    subst e1; subst e2; rw [Rep.det hf.1 h1 k1, Rep.det hf.2 h2 k2]
  | .arr n e, x, _, _, hf, ⟨_, h1⟩, ⟨_, h2⟩ => RepL.det (Q := Rep w S e) (fun x c1 c2 h k => Rep.det (by simpa [K.flat] using hf) h k) h1 h2

theorem RepL.mem {α : Type} {Q : α → List Value → Prop} {G : Value → Prop} (hQ : ∀ x cs, Q x cs → ∀ v ∈ cs, G v) : ∀ {l : List α} {cs : List Value}, RepL Q l cs → ∀ v ∈ cs, G v
  | [], _, h, v, hv => by cases h; cases hv
  | x :: l, _, ⟨c1, c2, e, h1, h2⟩, v, hv => by
    subst e
    rcases List.mem_append.1 hv with h | h
    · exact hQ x _ h1 v h
    · exact RepL.mem hQ h2 v h

theorem Rep.same : ∀ {c : K} {x : El c} {cs : List Value}, c.flat = true → Rep w S c x cs → ∀ v ∈ cs, ∀ n, Instr.sameBits n v v = true
  | .int _, _, _, _, h, v, hv, n => by simp only [Rep] at h; subst h; simp at hv; subst hv; cases n <;> simp [Instr.sameBits]
  | .bool, _, _, _, h, v, hv, n => by simp only [Rep] at h; subst h; simp at hv; subst hv; cases n <;> simp [Instr.sameBits]
  | .str, x, _, _, h, v, hv, n => by
    simp only [Rep] at h; subst h; simp at hv; subst hv
    cases n <;> simp only [Instr.sameBits] <;> exact (bytes_beq x x).2 rfl
  | .hdr, _, _, hf, _, _, _, _ => by simp [K.flat] at hf
  | .ref _, _, _, hf, _, _, _, _ => by simp [K.flat] at hf
  | .slice _, _, _, hf, _, _, _, _ => by simp [K.flat] at hf
  | .unit, _, _, _, h, v, hv, n => by simp only [Rep] at h; subst h; cases hv
  | .cons a b, x, _, hf, ⟨a1, a2, e1, h1, h2⟩, v, hv, n => by
    simp only [K.flat, Bool.and_eq_true] at hf
    subst e1
    rcases List.mem_append.1 hv with h | h
    · exact Rep.same hf.1 h1 v h n
    · exact Rep.same hf.2 h2 v h n
  | .arr _ e, x, _, hf, ⟨_, h⟩, v, hv, n => RepL.mem (G := fun v => ∀ n, Instr.sameBits n v v = true) (fun x cs h v hv n => Rep.same (by simpa [K.flat] using hf) h v hv n) h v hv n

theorem run_stays {c : K} {x : El c} {cs : List Value} {v : Value} (hf : c.flat = true) (h : Rep w S c x cs) (hs : Shut c.isAgg cs v) (w1 : World) : (Instr.keyThatStays v v).run P w1 = .ok v w1 := by
  have : Instr.sameBits 10000 v v = true := by
    cases hc : c.isAgg with
    | false =>
      have e : cs = [v] := by simpa [Shut, hc] using hs
      exact Rep.same hf h v (by simp [e]) _
    | true =>
      rw [hc] at hs
      rw [shut_agg hs]
      show Instr.sameBits (9999 + 1) _ _ = true
      simp only [Instr.sameBits, beq_self_eq_true, Bool.true_and, List.all_eq_true]
      intro q hq
      have hzz : ∀ (l : List Value) (q : Value × Value), q ∈ l.zip l → q.1 = q.2 ∧ q.1 ∈ l := by
        intro l
        induction l with
        | nil => intro q hq; simp at hq
        | cons a l ih =>
          intro q hq
          simp only [List.zip_cons_cons, List.mem_cons] at hq
          rcases hq with e | hq
          · subst e; exact ⟨rfl, List.mem_cons_self⟩
          · exact ⟨(ih q hq).1, List.mem_cons_of_mem _ (ih q hq).2⟩
      obtain ⟨e, hm⟩ := hzz _ q hq
      rw [← e]
      exact Rep.same hf h _ (by simpa using hm) _
  simp [Instr.keyThatStays, this]

/-! ### Entries -/
/-- The entry of a key: where it stands, its value. -/
def fnd (k v : K) (y : El k) : List (El k × El v) → List MapEntry → Nat → Option (Nat × Value)
  | e :: r, f :: q, i => bif eqE k y e.1 then some (i, f.val) else fnd k v y r q (i + 1)
  | _, _, _ => none

theorem findAsking_ok {kc vc : K} {tk : TypeId} (hty : ∀ t c, ty t = some c → TyOk P ty t c) (ht : ty tk = some kc) (hf : kc.flat = true) {y : El kc} {cy : List Value} {vy : Value} (ry : Rep w S kc y cy) (sy : Shut kc.isAgg cy vy) :
    ∀ (es : List (El kc × El vc)) (fs : List MapEntry) (i : Nat), MapL w S kc vc es fs → (Instr.findAsking tk vy fs i).run P w = .ok (fnd kc vc y es fs i) w
  | [], [], i, _ => by simp [Instr.findAsking, fnd]
  | e :: r, f :: q, i, ⟨⟨c1, r1, s1⟩, _, h3⟩ => by
    have hq := equalIn_ok hty 9999 kc tk y e.1 cy c1 vy f.key (by have := ((hty _ _ ht).eqg hf).2.2; omega) ht hf ry r1 sy s1
    have hq' : (Op.equal tk vy f.key).run P w = .ok (eqE kc y e.1) w := hq
    have ih := findAsking_ok hty ht hf ry sy r q (i + 1) h3
    simp only [Instr.findAsking, Sem.run_bind, hq', Result.andThen_ok, fnd]
    cases eqE kc y e.1 with
    | true => simp
    | false => simpa using ih
  | [], _ :: _, _, h => h.elim
  | _ :: _, [], _, h => h.elim

theorem findNow_ok {kc vc : K} {d : TypeDesc} (hd : (∃ k, d = .int k ∧ kc = .int k) ∨ (d = .bool ∧ kc = .bool) ∨ (d = .string ∧ kc = .str)) {y : El kc} {cy : List Value} {vy : Value} (ry : Rep w S kc y cy) (sy : Shut kc.isAgg cy vy) :
    ∀ (es : List (El kc × El vc)) (fs : List MapEntry) (i : Nat), MapL w S kc vc es fs → Instr.findNow d vy fs i = some (fnd kc vc y es fs i)
  | [], [], i, _ => by simp [Instr.findNow, fnd]
  | e :: r, f :: q, i, ⟨⟨c1, r1, s1⟩, _, h3⟩ => by
    have ih := findNow_ok hd ry sy r q (i + 1) h3
    have hs : Instr.sameNow d vy f.key = some (eqE kc y e.1) := by
      rcases hd with ⟨k, e1, e2⟩ | ⟨e1, e2⟩ | ⟨e1, e2⟩ <;> subst e1 <;> subst e2 <;> simp only [Rep] at ry r1 <;> subst ry <;> subst r1 <;> simp [Shut, K.isAgg] at sy s1 <;> subst sy <;> rw [← s1] <;> simp [Instr.sameNow, eqE]
    simp only [Instr.findNow, hs, fnd]
    cases eqE kc y e.1 with
    | true => simp
    | false => simpa using ih
  | [], _ :: _, _, h => h.elim
  | _ :: _, [], _, h => h.elim

theorem findKey_ok {kc vc : K} {tk : TypeId} (hty : ∀ t c, ty t = some c → TyOk P ty t c) (ht : ty tk = some kc) (hf : kc.flat = true) {y : El kc} {cy : List Value} {vy : Value} (ry : Rep w S kc y cy) (sy : Shut kc.isAgg cy vy)
    {es : List (El kc × El vc)} {fs : List MapEntry} (h : MapL w S kc vc es fs) : (Instr.findKey tk vy fs).run P w = .ok (fnd kc vc y es fs 0) w := by
  have hD := (hty _ _ ht).desc
  have now : ∀ {d : TypeDesc}, P.underlying tk = some d → ((∃ k, d = .int k ∧ kc = .int k) ∨ (d = .bool ∧ kc = .bool) ∨ (d = .string ∧ kc = .str)) → (Instr.findKey tk vy fs).run P w = .ok (fnd kc vc y es fs 0) w :=
    fun hu hd => run_findKey hu (findNow_ok hd ry sy es fs 0 h)
  have ask : ∀ {d : TypeDesc}, P.underlying tk = some d → (∀ e ∈ fs, Instr.sameNow d vy e.key = none) → (Instr.findKey tk vy fs).run P w = .ok (fnd kc vc y es fs 0) w := by
    intro d hu hn
    have hfa := findAsking_ok hty ht hf ry sy es fs 0 h
    cases fs with
    | nil =>
      have : fnd kc vc y es [] 0 = none := by cases es <;> rfl
      rw [this]
      exact run_findKey hu rfl
    | cons f q =>
      have : Instr.findNow d vy (f :: q) 0 = none := by simp [Instr.findNow, hn f (by simp)]
      simp only [Instr.findKey, Sem.run_bind, run_underlying hu, Result.andThen_ok, this]
      exact hfa
  cases kc with
  | int k => exact now hD (.inl ⟨k, rfl, rfl⟩)
  | bool => exact now hD (.inr (.inl ⟨rfl, rfl⟩))
  | str => exact now hD (.inr (.inr ⟨rfl, rfl⟩))
  | unit => obtain ⟨fs', h1, _⟩ := hD; exact ask h1 fun e _ => by simp [Instr.sameNow]
  | cons a b => obtain ⟨fs', h1, _⟩ := hD; exact ask h1 fun e _ => by simp [Instr.sameNow]
  | arr n e => obtain ⟨te, h1, _⟩ := hD; exact ask h1 fun e _ => by simp [Instr.sameNow]
  | ref r => simp [K.flat] at hf
  | hdr => simp [K.flat] at hf
  | slice e => simp [K.flat] at hf

theorem fnd_none {kc vc : K} {y : El kc} : ∀ {es : List (El kc × El vc)} {fs : List MapEntry} {i : Nat}, MapL w S kc vc es fs → fnd kc vc y es fs i = none → hasM kc vc es y = false ∧ getM kc vc es y = zeroE vc
  | [], [], i, _, _ => ⟨rfl, rfl⟩
  | e :: r, f :: q, i, ⟨_, _, h3⟩, h => by
    simp only [fnd] at h
    simp only [hasM, getM]
    cases he : eqE kc y e.1 with
    | true => rw [he] at h; cases h
    | false => rw [he] at h; simpa using fnd_none h3 h
  | [], _ :: _, _, h, _ => h.elim
  | _ :: _, [], _, h, _ => h.elim

theorem fnd_some {kc vc : K} {y : El kc} : ∀ {es : List (El kc × El vc)} {fs : List MapEntry} {i j : Nat} {v : Value}, MapL w S kc vc es fs → fnd kc vc y es fs i = some (j, v) →
    hasM kc vc es y = true ∧ (∃ cs, Rep w S vc (getM kc vc es y) cs ∧ Shut vc.isAgg cs v)
  | e :: r, f :: q, i, j, v, ⟨_, ⟨c2, r2, s2⟩, h3⟩, h => by
    simp only [fnd] at h
    simp only [hasM, getM]
    cases he : eqE kc y e.1 with
    | true =>
      rw [he] at h
      simp only [cond_true, Option.some.injEq, Prod.mk.injEq] at h
      rw [← h.2]
      exact ⟨rfl, c2, r2, s2⟩
    | false => rw [he] at h; simpa using fnd_some h3 h
  | [], [], _, _, _, _, h => by simp [fnd] at h
  | [], _ :: _, _, _, _, h, _ => h.elim
  | _ :: _, [], _, _, _, h, _ => h.elim

theorem put_none {kc vc : K} {y : El kc} {z : El vc} {e : MapEntry} (hk : ∃ cs, Rep w S kc y cs ∧ Shut kc.isAgg cs e.key) (hv : ∃ cs, Rep w S vc z cs ∧ Shut vc.isAgg cs e.val) :
    ∀ {es : List (El kc × El vc)} {fs : List MapEntry} {i : Nat}, MapL w S kc vc es fs → fnd kc vc y es fs i = none → MapL w S kc vc (putM kc vc es y z) (fs ++ [e])
  | [], [], i, _, _ => ⟨hk, hv, trivial⟩
  | g :: r, f :: q, i, ⟨h1, h2, h3⟩, h => by
    simp only [fnd] at h
    simp only [putM, List.cons_append]
    cases he : eqE kc y g.1 with
    | true => rw [he] at h; cases h
    | false => rw [he] at h; exact ⟨h1, h2, put_none hk hv h3 h⟩
  | [], _ :: _, _, h, _ => h.elim
  | _ :: _, [], _, h, _ => h.elim

theorem put_some {kc vc : K} {y : El kc} {z : El vc} {F : MapEntry → MapEntry} (hk : ∀ f, ∃ cs, Rep w S kc y cs ∧ Shut kc.isAgg cs (F f).key) (hv : ∀ f, ∃ cs, Rep w S vc z cs ∧ Shut vc.isAgg cs (F f).val) :
    ∀ {es : List (El kc × El vc)} {fs : List MapEntry} {i j : Nat} {v : Value}, MapL w S kc vc es fs → fnd kc vc y es fs i = some (j, v) → i ≤ j ∧ MapL w S kc vc (putM kc vc es y z) (fs.modify (j - i) F)
  | g :: r, f :: q, i, j, v, ⟨h1, h2, h3⟩, h => by
    simp only [fnd] at h
    simp only [putM]
    cases he : eqE kc y g.1 with
    | true =>
      rw [he] at h
      simp only [cond_true, Option.some.injEq, Prod.mk.injEq] at h
      obtain ⟨e1, -⟩ := h
      subst e1
      rw [Nat.sub_self]
      exact ⟨Nat.le_refl _, hk f, hv f, h3⟩
    | false =>
      rw [he] at h
      obtain ⟨hl, ih⟩ := put_some hk hv h3 h
      refine ⟨by omega, ?_⟩
      rw [show j - i = (j - (i + 1)) + 1 by omega]
      exact ⟨h1, h2, ih⟩
  | [], [], _, _, _, _, h => by simp [fnd] at h
  | [], _ :: _, _, _, _, h, _ => h.elim
  | _ :: _, [], _, _, _, h, _ => h.elim

theorem fnd_key {kc vc : K} (hf : kc.flat = true) {y : El kc} {cy : List Value} {vy : Value} (ry : Rep w S kc y cy) (sy : Shut kc.isAgg cy vy) : ∀ {es : List (El kc × El vc)} {fs : List MapEntry} {i j : Nat} {v : Value}, MapL w S kc vc es fs → fnd kc vc y es fs i = some (j, v) →
    ∃ f, fs[j - i]? = some f ∧ f.key = vy
  | g :: r, f :: q, i, j, v, ⟨⟨c1, r1, s1⟩, h2, h3⟩, h => by
    simp only [fnd] at h
    cases he : eqE kc y g.1 with
    | true =>
      rw [he] at h
      simp only [cond_true, Option.some.injEq, Prod.mk.injEq] at h
      obtain ⟨e1, -⟩ := h
      subst e1
      have e2 := eqE_eq hf he
      rw [← e2] at r1
      have e3 := Rep.det hf r1 ry
      subst e3
      refine ⟨f, by simp, ?_⟩
      unfold Shut at s1 sy
      cases hc : kc.isAgg with
      | true => rw [hc] at s1 sy; simp only [if_true] at s1 sy; rw [s1, sy]
      | false => rw [hc] at s1 sy; simp only [Bool.false_eq_true, if_false] at s1 sy; rw [s1] at sy; simpa using sy
    | false =>
      rw [he] at h
      obtain ⟨f', h4, h5⟩ := fnd_key hf ry sy h3 h
      have hij : i + 1 ≤ j := fnd_le h
      refine ⟨f', ?_, h5⟩
      rw [show j - i = (j - (i + 1)) + 1 by omega]
      simpa using h4
  | [], [], _, _, _, _, h => by simp [fnd] at h
  | [], _ :: _, _, _, _, h, _ => h.elim
  | _ :: _, [], _, _, _, h, _ => h.elim
where fnd_le {kc vc : K} {y : El kc} : ∀ {es : List (El kc × El vc)} {fs : List MapEntry} {i j : Nat} {v : Value}, fnd kc vc y es fs i = some (j, v) → i ≤ j
  | g :: r, f :: q, i, j, v, h => by
    simp only [fnd] at h
    cases he : eqE kc y g.1 with
    | true => rw [he] at h; simp only [cond_true, Option.some.injEq, Prod.mk.injEq] at h; omega
    | false => rw [he] at h; have := fnd_le h; omega
  | [], _, _, _, _, h => by simp [fnd] at h
  | _ :: _, [], _, _, _, h => by simp [fnd] at h

theorem del_some {kc vc : K} {y : El kc} : ∀ {es : List (El kc × El vc)} {fs : List MapEntry} {i j : Nat} {v : Value}, MapL w S kc vc es fs → fnd kc vc y es fs i = some (j, v) → i ≤ j ∧ j - i < fs.length ∧ MapL w S kc vc (delM kc vc es y) (fs.eraseIdx (j - i))
  | g :: r, f :: q, i, j, v, ⟨h1, h2, h3⟩, h => by
    simp only [fnd] at h
    simp only [delM]
    cases he : eqE kc y g.1 with
    | true =>
      rw [he] at h
      simp only [cond_true, Option.some.injEq, Prod.mk.injEq] at h
      obtain ⟨e1, -⟩ := h
      subst e1
      rw [Nat.sub_self]
      exact ⟨Nat.le_refl _, by simp, h3⟩
    | false =>
      rw [he] at h
      obtain ⟨hl, hl2, ih⟩ := del_some h3 h
      rw [show j - i = (j - (i + 1)) + 1 by omega]
      exact ⟨by omega, by simp only [List.length_cons]; omega, h1, h2, ih⟩
  | [], [], _, _, _, _, h => by simp [fnd] at h
  | [], _ :: _, _, _, _, h, _ => h.elim
  | _ :: _, [], _, _, _, h, _ => h.elim
theorem del_none {kc vc : K} {y : El kc} : ∀ {es : List (El kc × El vc)} {fs : List MapEntry} {i : Nat}, MapL w S kc vc es fs → fnd kc vc y es fs i = none → delM kc vc es y = es
  | [], [], i, _, _ => rfl
  | g :: r, f :: q, i, ⟨h1, h2, h3⟩, h => by
    simp only [fnd] at h
    simp only [delM]
    cases he : eqE kc y g.1 with
    | true => rw [he] at h; cases h
    | false => rw [he] at h; rw [del_none h3 h]; rfl
  | [], _ :: _, _, h, _ => h.elim
  | _ :: _, [], _, h, _ => h.elim

/-! ### Entries in any order -/
theorem eqE_rfl : ∀ {c : K} (x : El c), c.flat = true → eqE c x x = true
  | .int _, x, _ => by simp [eqE]
  | .bool, x, _ => by simp [eqE]
  | .str, x, _ => (bytes_beq x x).2 rfl
  | .hdr, _, h => by simp [K.flat] at h
  | .ref _, _, h => by simp [K.flat] at h
  | .slice _, _, h => by simp [K.flat] at h
  | .unit, _, _ => rfl
  | .cons a b, x, hf => by
    simp only [K.flat, Bool.and_eq_true] at hf
    simp only [eqE, Bool.and_eq_true]
    exact ⟨eqE_rfl x.1 hf.1, eqE_rfl x.2 hf.2⟩
  | .arr n e, x, hf => by
    have he : e.flat = true := by simpa [K.flat] using hf
    have go : ∀ l : List (El e), eqE.eqL (eqE e) l l = true := by
      intro l
      induction l with
      | nil => rfl
      | cons a l ih => simp only [eqE.eqL, Bool.and_eq_true]; exact ⟨eqE_rfl a he, ih⟩
    exact go x
section
variable {k v : K}
theorem nodup_perm {es es' : List (El k × El v)} (h : es'.Perm es) : (es'.map (·.1)).Nodup ↔ (es.map (·.1)).Nodup := (h.map _).nodup_iff
theorem hasM_perm {es es' : List (El k × El v)} {y : El k} (h : es'.Perm es) : hasM k v es' y = hasM k v es y := by
  induction h with
  | nil => rfl
  | cons x _ ih => simp only [hasM, ih]
  | swap a b l => simp only [hasM]; rw [← Bool.or_assoc, ← Bool.or_assoc, Bool.or_comm (eqE k y b.1)]
  | trans _ _ ih1 ih2 => exact ih1.trans ih2
theorem getM_perm (hf : k.flat = true) {es es' : List (El k × El v)} {y : El k} (h : es'.Perm es) : (es.map (·.1)).Nodup → getM k v es' y = getM k v es y := by
  induction h with
  | nil => exact fun _ => rfl
  | cons x _ ih => intro hn; simp only [List.map_cons, List.nodup_cons] at hn; simp only [getM, ih hn.2]
  | swap a b l =>
    intro hn
    simp only [List.map_cons, List.nodup_cons, List.mem_cons, not_or] at hn
    simp only [getM]
    cases h1 : eqE k y a.1 with
    | false => cases h2 : eqE k y b.1 <;> rfl
    | true =>
      cases h2 : eqE k y b.1 with
      | false => rfl
      | true => exact absurd ((eqE_eq hf h1).symm.trans (eqE_eq hf h2)) hn.1.1
  | trans p1 p2 ih1 ih2 => exact fun hn => (ih1 ((nodup_perm p2).2 hn)).trans (ih2 hn)
theorem putM_perm (hf : k.flat = true) {es es' : List (El k × El v)} {y : El k} {z : El v} (h : es'.Perm es) : (es.map (·.1)).Nodup → (putM k v es' y z).Perm (putM k v es y z) := by
  induction h with
  | nil => exact fun _ => .refl _
  | cons x p ih =>
    intro hn
    simp only [List.map_cons, List.nodup_cons] at hn
    simp only [putM]
    cases eqE k y x.1 with
    | true => exact p.cons _
    | false => exact (ih hn.2).cons _
  | swap a b l =>
    intro hn
    simp only [List.map_cons, List.nodup_cons, List.mem_cons, not_or] at hn
    simp only [putM]
    cases h1 : eqE k y a.1 with
    | false => cases h2 : eqE k y b.1 <;> exact .swap ..
    | true =>
      cases h2 : eqE k y b.1 with
      | false => exact .swap ..
      | true => exact absurd ((eqE_eq hf h1).symm.trans (eqE_eq hf h2)) hn.1.1
  | trans p1 p2 ih1 ih2 => exact fun hn => (ih1 ((nodup_perm p2).2 hn)).trans (ih2 hn)
theorem delM_perm (hf : k.flat = true) {es es' : List (El k × El v)} {y : El k} (h : es'.Perm es) : (es.map (·.1)).Nodup → (delM k v es' y).Perm (delM k v es y) := by
  induction h with
  | nil => exact fun _ => .refl _
  | cons x p ih =>
    intro hn
    simp only [List.map_cons, List.nodup_cons] at hn
    simp only [delM]
    cases eqE k y x.1 with
    | true => exact p
    | false => exact (ih hn.2).cons _
  | swap a b l =>
    intro hn
    simp only [List.map_cons, List.nodup_cons, List.mem_cons, not_or] at hn
    simp only [delM]
    cases h1 : eqE k y a.1 with
    | false => cases h2 : eqE k y b.1 <;> first | exact .refl _ | exact .swap ..
    | true =>
      cases h2 : eqE k y b.1 with
      | false => exact .refl _
      | true => exact absurd ((eqE_eq hf h1).symm.trans (eqE_eq hf h2)) hn.1.1
  | trans p1 p2 ih1 ih2 => exact fun hn => (ih1 ((nodup_perm p2).2 hn)).trans (ih2 hn)
theorem putM_mem {y : El k} {z : El v} : ∀ {es : List (El k × El v)} {x : El k}, x ∈ (putM k v es y z).map (·.1) → x = y ∨ x ∈ es.map (·.1)
  | [], x, h => by simpa [putM] using h
  | e :: r, x, h => by
    simp only [putM] at h
    cases he : eqE k y e.1 with
    | true => rw [he] at h; simp only [cond_true, List.map_cons, List.mem_cons] at h ⊢; exact h.imp id .inr
    | false =>
      rw [he] at h
      simp only [cond_false, List.map_cons, List.mem_cons] at h ⊢
      rcases h with h | h
      · exact .inr (.inl h)
      · exact (putM_mem h).imp id .inr
theorem putM_nodup (hf : k.flat = true) {y : El k} {z : El v} : ∀ {es : List (El k × El v)}, (es.map (·.1)).Nodup → ((putM k v es y z).map (·.1)).Nodup
  | [], _ => by simp [putM]
  | e :: r, h => by
    simp only [List.map_cons, List.nodup_cons] at h
    simp only [putM]
    cases he : eqE k y e.1 with
    | true => simp only [cond_true, List.map_cons, List.nodup_cons]; rw [eqE_eq hf he]; exact h
    | false =>
      simp only [cond_false, List.map_cons, List.nodup_cons]
      refine ⟨fun hm => ?_, putM_nodup hf h.2⟩
      rcases putM_mem hm with q | q
      · rw [← q, eqE_rfl _ hf] at he; cases he
      · exact h.1 q
theorem delM_sub {y : El k} : ∀ {es : List (El k × El v)}, (delM k v es y).Sublist es
  | [] => .slnil
  | e :: r => by
    simp only [delM]
    cases eqE k y e.1 with
    | true => exact .cons _ (List.Sublist.refl _)
    | false => exact .cons_cons _ delM_sub
theorem delM_nodup {y : El k} {es : List (El k × El v)} (h : (es.map (·.1)).Nodup) : ((delM k v es y).map (·.1)).Nodup := h.sublist (delM_sub.map _)
theorem MapP.put {w : World} {S : Cells} (hf : k.flat = true) {es es0 : List (El k × El v)} {fs : List MapEntry} {y : El k} {z : El v} (hn : (es.map (·.1)).Nodup) (hp : es0.Perm es) (h : MapL w S k v (putM k v es0 y z) fs) : MapP w S k v (putM k v es y z) fs :=
  ⟨putM_nodup hf hn, _, putM_perm hf hp hn, h⟩
theorem MapP.del {w : World} {S : Cells} (hf : k.flat = true) {es es0 : List (El k × El v)} {fs : List MapEntry} {y : El k} (hn : (es.map (·.1)).Nodup) (hp : es0.Perm es) (h : MapL w S k v (delM k v es0 y) fs) : MapP w S k v (delM k v es y) fs :=
  ⟨delM_nodup hn, _, delM_perm hf hp hn, h⟩
end

/-! ### The operations -/
/-- A map put anew. -/
theorem StoRel.setMap (h : StoRel σ w S m) {id : Nat} {u : MB} {kc vc : K} {es es' : List (El kc × El vc)} (hs : σ id = some (.map kc vc es)) (hu : m id = some u) {fs' : Array MapEntry} {clock' : Nat} (hf : MapP w S kc vc es' fs'.toList) (hbn : Born fs' clock') :
    Step1 σ w S m (fun i => bif Nat.beq i id then some (.map kc vc es') else σ i) { w with heap := w.heap.setIfInBounds u.b (.map fs' clock') } S m := by
  obtain ⟨u', h1, h2⟩ := h.sto id _ hs
  rw [hu] at h1; cases h1
  obtain ⟨g0, gf, fs, clock, g1, g2⟩ := h2
  obtain ⟨q1, q2⟩ := heap_set (o' := .map fs' clock') g1
  have hT : Touch (fun b _ => b = u.b) w { w with heap := w.heap.setIfInBounds u.b (.map fs' clock') } :=
    ⟨rfl, ⟨rfl, Nat.le_refl _⟩, rfl, by simp, fun b x hb hx => by simp only [World.cell?, World.frozen?]; rw [q2 b hx]; exact ⟨rfl, rfl⟩, fun b hb hx => q2 b (hx 0)⟩
  have hOJ : OwnJ (fun i => i = id) σ m = Own u (.map kc vc es) := by
    funext b x'; apply propext; constructor
    · rintro ⟨i, o, u', e, h5, h6, h7⟩; subst e; rw [hs] at h5; cases h5; rw [hu] at h6; cases h6; exact h7
    · exact fun q => ⟨id, _, u, rfl, hs, hu, q⟩
  have hk : Keeps w S { w with heap := w.heap.setIfInBounds u.b (.map fs' clock') } S := hT.keeps (fun b x' hS hF => h.stab id _ u hs hu b x' hS hF) fun _ _ q => q
  obtain ⟨r1, r2, r3⟩ := h.change (J := fun i => i = id) (σ' := fun i => bif Nat.beq i id then some (.map kc vc es') else σ i) (m' := m) (S' := S)
    (fun i hi => upd_ne hi) (fun _ _ q => q) hT (fun b x' hF _ => by rw [hOJ]; exact hF) (fun _ _ q => q) (fun _ _ q => .inl q)
    (fun i o hi ho => by
      subst hi
      rw [upd_eq] at ho; cases ho
      exact ⟨u, hu, ⟨g0, gf, fs', clock', q1, hf.keep hk, hbn⟩, fun b x' hx => ⟨.inr (by rw [hOJ]; exact hx), fun hS => h.stab i _ u hs hu b x' hS hx⟩⟩)
    (fun i j o p u v hi hj hij => absurd (hi.trans hj.symm) hij)
  exact ⟨r1, r2, r3⟩

theorem un_repV {c : K} {t : T} {y : El c} {v : Value} (h : t.un c = some y) (ha : t.isAny = false) (hr : RepV w S m t v) : ∃ cs, Rep w S c y cs ∧ Shut c.isAgg cs v := by
  obtain ⟨cs, h1, h2⟩ := of_repV ha hr
  exact ⟨cs, T.un_ok h h1, by rw [← T.un_agg h]; exact h2⟩

theorem ok_makeMap (hC : CtxOk P C) (hr : Rel s a.tmps w S m) {t : TypeId} {rs : Option Operand} (ho : o.op = .makeMap t rs) {d : Nat} (hd : (match o.dst with | some d => d | none => 0) = d) (h1 : d < 99000) (h2 : s.done d = false)
    (he : evalOp C o s.env s.sto κ = some r) : Ok P s a w S m o κ r := by
  subst hd
  cases rs with
  | some _ => simp only [evalOp, ho] at he; cases he
  | none =>
  simp only [evalOp, ho] at he
  split at he
  case h_2 => cases he
  rename_i k v hm
  obtain ⟨tk, tv, m1, m2, m3, m4⟩ := hC.mp _ _ _ hm
  refine ⟨_, _, he, fun next Q kk => ?_⟩
  simp only [ho, makes] at kk ⊢
  have hT := Touch.alloc (fun _ _ => False) w (.map #[] 0)
  have hheap : (w.alloc (.map #[] 0)).heap[w.heap.size]? = some (.map #[] 0) := heap_new w _
  have st := hr.toStoRel.new (id := 1000 + (match o.dst with | some d => d | none => 0)) (hr.free h1 h2) (u := ⟨.map (some w.heap.size), w.heap.size, 0, .unit⟩) (ob := .map k v []) hT (fun _ _ q => q) (fun _ _ q => .inl q)
    ⟨rfl, m4, #[], 0, hheap, MapP.nil, Born.empty 0⟩ (fun b x hx => by
      have e : b = w.heap.size := hx
      subst e
      exact ⟨Nat.le_refl _, fun hS => absurd (hr.toStoRel.live _ _ hS) (Nat.lt_irrefl _)⟩)
  refine wp_value (v := .map (some w.heap.size)) (w' := w.alloc (.map #[] 0)) ?_ (kk _ _ (After.of hr (by rw [upds_one]; exact st) ?_ (New.inv h1 rfl)))
  · simp [execOp, ho, Instr.makeMap, Sem.run_bind, newObj]; rfl
  · exact .inr ⟨[_], ⟨_, putM1_new, rfl, _, rfl⟩, by simp [Shut, T.isAgg]⟩

theorem ok_lookup (hC : CtxOk P C) (hr : Rel s a.tmps w S m) {t : TypeId} {x i : Operand} {ok : Bool} (ho : o.op = .lookup t x i ok) (he : evalOp C o s.env s.sto κ = some r) : Ok P s a w S m o κ r := by
  simp only [evalOp, ho] at he
  have depth : ∀ {tk : TypeId} {k : K}, C.ty tk = some k → k.flat = true → depthK k ≤ 9999 := fun h1 h2 => by have := ((hC.ty _ _ h1).eqg h2).2.2; omega
  split at he
  · rename_i k' v' id u hm hx hi
    split at he
    case h_2 => cases he
    rename_i k v es hs
    obtain ⟨hb, he2⟩ := bif_some he
    clear he
    simp only [Bool.and_eq_true, decide_eq_true_eq] at hb
    obtain ⟨e1, e2, hdat⟩ := hb
    subst e1; subst e2
    split at he2
    case h_2 => cases he2
    rename_i y hy
    obtain ⟨tk, tv, m1, m2, m3, m4⟩ := hC.mp _ _ _ hm
    obtain ⟨cy, ry, sy⟩ := un_repV hy (opnd_any hi) (opnd_ok hr hi)
    obtain ⟨ub, kb, hub, ex, ehv⟩ := repV_mapr (opnd_ok hr hx)
    obtain ⟨g0, g1, fs, clock, g2, ⟨gn, es0, gp, g3⟩, gB⟩ := hr.obj hub hs
    rw [g0] at ehv
    have hck := checkKey_ok (w := w) (S := S) hC.ty fs.isEmpty 9999 k' tk y cy (a.eval i) (depth m2 m4) m2 m4 ry sy
    have hfk := findKey_ok (w := w) (S := S) (vc := v') hC.ty m2 m4 ry sy g3
    have hz := (hC.ty _ _ m3).run_zero (w := w)
    have hread : ∃ v, RepV w S m (.val v' (getM k' v' es0 y)) v ∧ (Instr.lookup t (a.eval x) (a.eval i) ok).run P w = .ok (if ok then .tuple #[v, .bool (hasM k' v' es0 y)] else v) w := by
      cases hf : fnd k' v' y es0 fs.toList 0 with
      | none =>
        obtain ⟨n1, n2⟩ := fnd_none g3 hf
        rw [hf] at hfk
        refine ⟨_, repV_val (by rw [n2]; exact zeroE_ok hdat) (shut_of (zcells_length v')), ?_⟩
        rw [n1]
        simp [Instr.lookup, Sem.run_bind, run_underlying m1, ehv, MapKept.run_getObj_map g2, hck, hfk, hz]
      | some jv =>
        obtain ⟨j, fv⟩ := jv
        obtain ⟨n1, cs, n2, n3⟩ := fnd_some g3 hf
        rw [hf] at hfk
        refine ⟨fv, repV_val n2 n3, ?_⟩
        rw [n1]
        simp [Instr.lookup, Sem.run_bind, run_underlying m1, ehv, MapKept.run_getObj_map g2, hck, hfk]
    rw [getM_perm m4 gp gn, hasM_perm gp] at hread
    obtain ⟨v, rv, hrun⟩ := hread
    cases ok with
    | true =>
      refine Ok.pure (v := .tuple #[v, .bool (hasM k' v' es y)]) hr he2 (.inr ⟨[_], ⟨[v, .bool (hasM k' v' es y)], ⟨v, _, rfl, rv, _, _, rfl, repV_mkBool _, rfl⟩, rfl⟩, by simp [Shut, T.isAgg]⟩) ?_
      simp only [if_true, Bool.false_eq_true, if_false] at hrun
      simp [execOp, ho, Sem.run_bind, hrun]
    | false =>
      refine Ok.pure (v := v) hr he2 rv ?_
      simp only [if_true, Bool.false_eq_true, if_false] at hrun
      simp [execOp, ho, Sem.run_bind, hrun]
  · rename_i k v u hm hx hi
    obtain ⟨hdat, he2⟩ := bif_some he
    clear he
    split at he2
    case h_2 => cases he2
    rename_i y hy
    obtain ⟨tk, tv, m1, m2, m3, m4⟩ := hC.mp _ _ _ hm
    obtain ⟨cy, ry, sy⟩ := un_repV hy (opnd_any hi) (opnd_ok hr hi)
    have ex : a.eval x = .map none := by rcases repV_nilr (opnd_ok hr hx) with ⟨h, _⟩ | ⟨_, h⟩ | ⟨h, _⟩ <;> first | exact h | omega
    have hck := checkKey_ok (w := w) (S := S) hC.ty true 9999 k tk y cy (a.eval i) (depth m2 m4) m2 m4 ry sy
    have hfk := findKey_ok (w := w) (S := S) (vc := v) (es := []) (fs := []) hC.ty m2 m4 ry sy trivial
    have hz := (hC.ty _ _ m3).run_zero (w := w)
    have hrun : (Instr.lookup t (a.eval x) (a.eval i) ok).run P w = .ok (if ok then .tuple #[shutV v.isAgg (zcells v), .bool false] else shutV v.isAgg (zcells v)) w := by
      simp [Instr.lookup, Sem.run_bind, run_underlying m1, ex, hck, hfk, fnd, hz]
    have rv : RepV w S m (.val v (zeroE v)) (shutV v.isAgg (zcells v)) := repV_val (zeroE_ok hdat) (shut_of (zcells_length v))
    cases ok with
    | true =>
      refine Ok.pure (v := .tuple #[shutV v.isAgg (zcells v), .bool false]) hr he2 (.inr ⟨[_], ⟨[_, .bool false], ⟨_, _, rfl, rv, _, _, rfl, repV_mkBool _, rfl⟩, rfl⟩, by simp [Shut, T.isAgg]⟩) ?_
      simp only [if_true, Bool.false_eq_true, if_false] at hrun
      simp [execOp, ho, Sem.run_bind, hrun]
    | false =>
      refine Ok.pure hr he2 rv ?_
      simp only [if_true, Bool.false_eq_true, if_false] at hrun
      simp [execOp, ho, Sem.run_bind, hrun]
  · cases he

theorem ok_mapUpdate (hC : CtxOk P C) (hr : Rel s a.tmps w S m) {t : TypeId} {x i z : Operand} (ho : o.op = .mapUpdate t x i z) (he : evalOp C o s.env s.sto κ = some r) : Ok P s a w S m o κ r := by
  simp only [evalOp, ho] at he
  have depth : ∀ {tk : TypeId} {k : K}, C.ty tk = some k → k.flat = true → depthK k ≤ 9999 := fun h1 h2 => by have := ((hC.ty _ _ h1).eqg h2).2.2; omega
  split at he
  case h_2 => cases he
  rename_i k' v' id u q hm hx hi hz
  split at he
  case h_2 => cases he
  rename_i k v es hs
  obtain ⟨hb, he2⟩ := bif_some he
  clear he
  simp only [Bool.and_eq_true, decide_eq_true_eq] at hb
  obtain ⟨e1, e2⟩ := hb
  subst e1; subst e2
  split at he2
  case h_2 => cases he2
  rename_i y zz hy hzz
  obtain ⟨tk, tv, m1, m2, m3, m4⟩ := hC.mp _ _ _ hm
  obtain ⟨cy, ry, sy⟩ := un_repV hy (opnd_any hi) (opnd_ok hr hi)
  obtain ⟨cz, rz, sz⟩ := un_repV hzz (opnd_any hz) (opnd_ok hr hz)
  obtain ⟨ub, kb, hub, ex, ehv⟩ := repV_mapr (opnd_ok hr hx)
  obtain ⟨g0, g1, fs, clock, g2, ⟨gn, es0, gp, g3⟩, gB⟩ := hr.obj hub hs
  rw [g0] at ehv
  have hck := checkKey_ok (w := w) (S := S) hC.ty false 9999 k' tk y cy (a.eval i) (depth m2 m4) m2 m4 ry sy
  have hfk := findKey_ok (w := w) (S := S) (vc := v') hC.ty m2 m4 ry sy g3
  refine ⟨_, _, he2, fun next Q kk => ?_⟩
  have fin : ∀ (fs' : Array MapEntry) (clock' : Nat), MapL w S k' v' (putM k' v' es0 y zz) fs'.toList → Born fs' clock' → (Instr.mapUpdate t (a.eval x) (a.eval i) (a.eval z)).run P w = .ok () { w with heap := w.heap.setIfInBounds ub.b (.map fs' clock') } →
      o.wp P a w next Q := by
    intro fs' clock' hf hbn hrun
    exact wp_skip' (w' := { w with heap := w.heap.setIfInBounds ub.b (.map fs' clock') }) (by simp [execOp, ho, Sem.run_bind, hrun]) (kk undef _ (After.of hr (by rw [upds_one]; exact hr.toStoRel.setMap hs hub (MapP.put m4 gn gp hf) hbn) (.inl rfl) fun i u h => .inl h))
  cases hf : fnd k' v' y es0 fs.toList 0 with
  | none =>
    rw [hf] at hfk
    refine fin (fs.push { key := a.eval i, val := a.eval z, born := clock }) (clock + 1) ?_ (gB.push _ _) ?_
    · rw [Array.toList_push]
      exact put_none ⟨cy, ry, sy⟩ ⟨cz, rz, sz⟩ g3 hf
    · simp [Instr.mapUpdate, Sem.run_bind, run_underlying m1, ehv, MapKept.run_getObj_map g2, hck, hfk, MapKept.run_setObj_map _ g2]
  | some jv =>
    obtain ⟨j, fv⟩ := jv
    rw [hf] at hfk
    obtain ⟨f, f1, f2⟩ := fnd_key m4 ry sy g3 hf
    have hj : fs[j]? = some f := by simpa using f1
    obtain ⟨-, hput⟩ := put_some (F := fun e => { e with key := a.eval i, val := a.eval z }) (fun _ => ⟨cy, ry, sy⟩) (fun _ => ⟨cz, rz, sz⟩) g3 hf
    refine fin (fs.modify j fun e => { e with key := a.eval i, val := a.eval z }) clock ?_ (gB.modify _ _ fun _ => rfl) ?_
    · rw [Array.toList_modify]; simpa using hput
    · simp [Instr.mapUpdate, Sem.run_bind, run_underlying m1, ehv, MapKept.run_getObj_map g2, hck, hfk, hj, f2, run_stays m4 ry sy, MapKept.run_setObj_map _ g2]

theorem ok_delete (hC : CtxOk P C) (hr : Rel s a.tmps w S m) {c : Call} {x i : Operand} (ho : o.op = .call c) (hb : c.callee = .builtin .delete) (ha : c.args.toList = [x, i]) (he : evalOp C o s.env s.sto κ = some r) : Ok P s a w S m o κ r := by
  simp only [evalOp, ho, hb, ha] at he
  have ea : c.args = #[x, i] := by apply Array.ext'; simpa using ha
  have depth : ∀ {tk : TypeId} {k : K}, C.ty tk = some k → k.flat = true → depthK k ≤ 9999 := fun h1 h2 => by have := ((hC.ty _ _ h1).eqg h2).2.2; omega
  split at he
  case h_2 => cases he
  rename_i t ts hts
  split at he
  case h_2 => cases he
  rename_i k' v' id u hm hx hi
  split at he
  case h_2 => cases he
  rename_i k v es hs
  obtain ⟨hbb, he2⟩ := bif_some he
  clear he
  simp only [Bool.and_eq_true, decide_eq_true_eq] at hbb
  obtain ⟨e1, e2⟩ := hbb
  subst e1; subst e2
  split at he2
  case h_2 => cases he2
  rename_i y hy
  have ht0 : c.argTypes[0]? = some t := by rw [← Array.getElem?_toList, hts]; rfl
  obtain ⟨tk, tv, m1, m2, m3, m4⟩ := hC.mp _ _ _ hm
  obtain ⟨cy, ry, sy⟩ := un_repV hy (opnd_any hi) (opnd_ok hr hi)
  obtain ⟨ub, kb, hub, ex, ehv⟩ := repV_mapr (opnd_ok hr hx)
  obtain ⟨g0, g1, fs, clock, g2, ⟨gn, es0, gp, g3⟩, gB⟩ := hr.obj hub hs
  rw [g0] at ehv
  have hck := checkKey_ok (w := w) (S := S) hC.ty fs.isEmpty 9999 k' tk y cy (a.eval i) (depth m2 m4) m2 m4 ry sy
  have hfk := findKey_ok (w := w) (S := S) (vc := v') hC.ty m2 m4 ry sy g3
  refine ⟨_, _, he2, fun next Q kk => ?_⟩
  have fin : ∀ (fs' : Array MapEntry) (clock' : Nat), MapL w S k' v' (delM k' v' es0 y) fs'.toList → Born fs' clock' → (Builtin.delete_ c.argTypes o.type #[a.eval x, a.eval i]).run P w = .ok (.tuple #[]) { w with heap := w.heap.setIfInBounds ub.b (.map fs' clock') } →
      o.wp P a w next Q := by
    intro fs' clock' hf hbn hrun
    exact wp_value (v := .tuple #[]) (w' := { w with heap := w.heap.setIfInBounds ub.b (.map fs' clock') }) (by simp [execOp, ho, resolve, hb, ea, Sem.run_bind, invoke, builtin, hrun]) (kk _ _ (After.of hr (by rw [upds_one]; exact hr.toStoRel.setMap hs hub (MapP.del m4 gn gp hf) hbn) (.inl rfl) fun i u h => .inl h))
  cases hf : fnd k' v' y es0 fs.toList 0 with
  | none =>
    rw [hf] at hfk
    refine fin fs clock (by rw [del_none g3 hf]; exact g3) gB ?_
    simp [Builtin.delete_, Sem.run_bind, ht0, run_underlying m1, ehv, MapKept.run_getObj_map g2, hck, hfk, MapKept.run_setObj_map _ g2]
  | some jv =>
    obtain ⟨j, fv⟩ := jv
    rw [hf] at hfk
    obtain ⟨-, hl, hd⟩ := del_some g3 hf
    have hjl : j < fs.size := by simpa using hl
    refine fin (fs.eraseIdxIfInBounds j) clock ?_ (gB.erase _) ?_
    · unfold Array.eraseIdxIfInBounds
      rw [dif_pos hjl, Array.toList_eraseIdx]
      simpa using hd
    · simp [Builtin.delete_, Sem.run_bind, ht0, run_underlying m1, ehv, MapKept.run_getObj_map g2, hck, hfk, MapKept.run_setObj_map _ g2]
end
end Go.Proofs.D
