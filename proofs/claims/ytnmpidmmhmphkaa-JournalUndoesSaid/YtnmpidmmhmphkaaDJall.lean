/- A journal's transactions: slices.Sorted(maps.Keys(j.open)) in the midst of a function, where the keys are few (region 4 of its body). -/
import Derived.Test.YtnmpidmmhmphkaaDTab
import Derived.Test.YtnmpidmmhmphkaaDApart
import Derived.WalkKit
import Derived.WalkSpells
import Derived.WalkLawsBesides
set_option linter.unusedVariables false
set_option linter.unusedSimpArgs false
namespace Go.Proofs.D
open Go.RowKit Go.Sort

/-- slices.Sorted of an iterator that gives few. -/
def SortedFew (P : Program) (sf gf : FuncId) (kk : K) (le : El kk → El kk → Bool) (B : Nat) : Prop := ∀ (w : World) (S : Cells) (bx : Value) (ok : List (El kk) → Prop) (N : Nat), KGives P gf bx kk ok N w → (∀ b x, S b x → b < w.heap.size) → N ≤ B → (∀ ks, ok ks → ks.length ≤ N) →
  Calls P sf #[.func (.func gf) #[] #[bx]] w fun e w' => ∃ v ks S', e = .returned v ∧ ok ks ∧ RepV w' S' (fun _ => none) (.val (.slice kk) (ks.mergeSort le)) v ∧ Ext (fun _ _ => False) w S (fun _ => none) w' S' (fun _ => none) (fun _ _ => False) ∧ ∀ b x, S' b x → b < w'.heap.size

def jaS (kk vc : K) : StSk := { env := [(0, .ptr 0), (3, .nils vc)], objs := [tabSk 1, .map kk vc] }
def jaT (kk vc : K) : StSk := { env := [(0, .ptr 0), (3, .nils vc), (13, .val (.slice kk)), (14, .val kI), (15, .val kI)], objs := [tabSk 1, .map kk vc] }
def jaE (vc : K) : List (Nat × T) := [(0, .ptr 0 []), (3, .nils vc)]
def jaEa (vc : K) : List (Nat × T) := [(0, .ptr 0 []), (3, .nils vc), (11, .mapr 1)]
def jaEb (kk vc : K) (l : List (El kk)) : List (Nat × T) := [(0, .ptr 0 []), (3, .nils vc), (13, .val (.slice kk) l)]
def jaEc (kk vc : K) (l : List (El kk)) : List (Nat × T) := [(0, .ptr 0 []), (3, .nils vc), (13, .val (.slice kk) l), (14, .val kI l.length), (15, .val kI 0)]
def jaO (kk vc : K) (es : List (El kk × El vc)) : List (Nat × Obj) := [(0, .cell tabK false (.pair (.mapr 1) (.val .unit ()))), (1, .map kk vc es)]
def jaG (kk vc : K) (le : El kk → El kk → Bool) (B : Nat) (v : (Unit × Unit) × ((Unit × Unit) × List (El kk × El vc) × Unit)) : Option ((Unit × Unit × List (El kk) × Int × Int) × ((Unit × Unit) × List (El kk × El vc) × Unit)) :=
  bif Nat.ble v.2.2.1.length B then (let l := (v.2.2.1.map (·.1)).mergeSort le; some (((), ((), (l, ((l.length : Int), 0)))), v.2)) else none
def jaGiven (kk vc : K) (le : El kk → El kk → Bool) (B : Nat) : Given := { hd := jaS kk vc, outs := [(.normal, jaT kk vc)], G := jaG kk vc le B }

structure JaFacts (P : Program) (C : Ctx) (fn : Func) (kk vc : K) (kf sf : FuncId) (fk fs : Func) (ts1 ts2 : Array TypeId) : Prop where
  h15 : 15 < C.n
  hk : P.funcs[kf]? = some fk
  hkn : (fk.name == "runtime.NumGoroutine") = false
  hkb : fk.body.isSome = true
  hs : P.funcs[sf]? = some fs
  hsn : (fs.name == "runtime.NumGoroutine") = false
  hsb : fs.body.isSome = true
  r4 : (rops (bodyOf fn) 4).toList = [rg fn 4 0, rg fn 4 1, rg fn 4 2, rg fn 4 3, rg fn 4 4, rg fn 4 5, rg fn 4 6, rg fn 4 7]
  c4 : (rg fn 4 4).op = .call { callee := .value (.func kf), args := #[.tmp 11], argTypes := ts1 }
  c5 : (rg fn 4 5).op = .call { callee := .value (.func sf), args := #[.tmp 12], argTypes := ts2 }
  d : [(rg fn 4 4).dst, (rg fn 4 5).dst] = [some 12, some 13]
  g4 : (rg fn 4 4).guard = none
  g5 : (rg fn 4 5).guard = none
  q0 : ∀ (es : List (El kk × El vc)), evalOps C (rops (bodyOf fn) 4).toList [rg fn 4 0, rg fn 4 1, rg fn 4 2, rg fn 4 3] (fillSt (jaS kk vc) (((), ()), (((), ()), (es, ())))) (fun sF => some (factR [0, 3, 11] [0, 1] sF)) = some (toldR (jaEa vc) (jaO kk vc es) (fun _ => none) [])
  q3 : ∀ (es : List (El kk × El vc)) (l : List (El kk)), evalOps C (rops (bodyOf fn) 4).toList [rg fn 4 6, rg fn 4 7] (mkS (jaEb kk vc l) (jaO kk vc es) []) (fun sF => some (factR [0, 3, 13, 14, 15] [0, 1] sF)) = some (toldR (jaEc kk vc l) (jaO kk vc es) (fun _ => none) [])

theorem ja_ok {P : Program} {C C2 : Ctx} {fn fk fs fg : Func} {kk vc : K} {kf sf gf : FuncId} {ts1 ts2 ts : Array TypeId} {mt tk tv : TypeId} {cmp : El kk → El kk → Int} {B : Nat} {one : Bool} (hC : CtxOk P C) (hC2 : CtxOk P C2) (F : JaFacts P C fn kk vc kf sf fk fs ts1 ts2) (K : KitFacts P C2 gf fg kk mt tk tv ts one) (hfl : kk.flat = true)
    (hK : KeysCall P kf gf mt) (hS : SortedFew P sf gf kk (leOf cmp) B) (hO : SWO (ltOf cmp)) (hT : ∀ x y, ltOf cmp x y = false → ltOf cmp y x = false → x = y) (hin : Inhabited (El kk)) {np : Nat} : CodeOk P C np (.region 4 (rops (bodyOf fn) 4) false) (jaGiven kk vc (leOf cmp) B) := by
  intro O0 w0 S0 m0 v z a w S m hG h0 Q hQ
  have h : At C 0 O0 w0 S0 m0 _ a w S m := ⟨h0.rel, h0.tm, h0.ext, fun i u hi => absurd hi (Nat.not_lt_zero _)⟩
  obtain ⟨⟨_, _⟩, ⟨_, _⟩, es, _⟩ := v
  have hG : jaG kk vc (leOf cmp) B (((), ()), (((), ()), (es, ()))) = some z := hG
  unfold jaG at hG
  obtain ⟨hle, hG⟩ := bif_some hG
  have hle := Nat.le_of_ble_eq_true hle
  have h15 := F.h15
  have hat : ∀ j, (rops (bodyOf fn) 4)[j]? = [rg fn 4 0, rg fn 4 1, rg fn 4 2, rg fn 4 3, rg fn 4 4, rg fn 4 5, rg fn 4 6, rg fn 4 7][j]? := fun j => by rw [← Array.getElem?_toList, F.r4]
  have ds := F.d
  simp only [List.cons.injEq, and_true] at ds
  refine (wpIn_wide (n := 0)).1 ?_
  show Code.wpIn (Fr none) 0 P _ _ a w
  rw [← withD_self h.tm.2]
  refine wpIn_region ?_
  rw [show (rops (bodyOf fn) 4).size = 8 by rw [← Array.length_toList, F.r4]; rfl]
  show wpOpsIn _ _ _ _ _ (List.range' 0 [rg fn 4 0, rg fn 4 1, rg fn 4 2, rg fn 4 3].length ++ (4 :: 5 :: (List.range' 6 [rg fn 4 6, rg fn 4 7].length ++ []))) _ _
  refine At.opsS (E' := jaEa vc) (O' := jaO kk vc es) (ρ' := fun _ => none) (d' := []) hC rfl (fun j y hy => ?_) h rfl rfl (fun i o q => by cases q) (F.q0 es) fun a1 w1 S1 m1 h1 _ d1 _ _ => ?_
  · rw [hat]
    match j, hy with
    | 0, hy => exact hy
    | 1, hy => exact hy
    | 2, hy => exact hy
    | 3, hy => exact hy
    | j + 4, hy => simp at hy
  rw [mkR_mkS] at h1
  obtain ⟨um, hu, g0, gf', fs1, clock, gb, gM, gB⟩ := h1.rel.sto 1 (.map kk vc es) rfl
  have e11 : a1.eval (.tmp 11) = .map (some um.b) := by
    obtain ⟨u, kb, q1, q2, q3⟩ := repV_mapr (i := 1) (h1.rel.env 11)
    rw [hu] at q1; cases q1
    exact q3.trans g0
  refine opsIn_cons (hat 4) F.g4 (callIn F.hk F.hkn F.hkb F.c4 (by simp [e11]) (hK (some um.b) w1) h1.tm.2 ?_)
  rintro e w2 ⟨rfl, rfl⟩
  refine ⟨_, rfl, ?_⟩
  rw [ds.1]
  have hal := Gr.alloc w1 (.cells #[.map (some um.b)] mt)
  have h2 := (h1.grow0 (hal.ext S1) (fun b x q => Nat.lt_of_lt_of_le (h1.rel.live b x q) hal.size)).putT (d := 12) (t := .any 0) (v := .func (.func gf) #[] #[.pointer (some ⟨w1.heap.size, 0, none⟩)]) (by omega) (.inl rfl)
  obtain ⟨a2, ha2⟩ : ∃ a2, a2 = a1.put (some 12) (.func (.func gf) #[] #[.pointer (some ⟨w1.heap.size, 0, none⟩)]) := ⟨_, rfl⟩
  rw [← ha2] at h2 ⊢
  have e12 : a2.eval (.tmp 12) = .func (.func gf) #[] #[.pointer (some ⟨w1.heap.size, 0, none⟩)] := by
    have : 12 < a1.tmps.size := by rw [h1.tm.1]; omega
    show a2.tmps.getD 12 undef = _
    rw [ha2]; simp [Act.put, this]
  have hbx : (w1.alloc (.cells #[.map (some um.b)] mt)).cell? ⟨w1.heap.size, 0, none⟩ = some (.map (some um.b)) := by
    unfold World.cell?
    rw [heap_alloc_new]; rfl
  have hkg := kgives hC2 K hfl (gM.keep (grown_keeps hal)) gB ((hal.block _ (Array.getElem?_eq_some_iff.1 gb).1 (by simp)).trans gb) hbx
  refine opsIn_cons (hat 5) F.g5 (callIn F.hs F.hsn F.hsb F.c5 (by simp [e12]) (hS _ S1 _ _ _ hkg h2.rel.live hle fun ks hp => ?_) h2.tm.2 ?_)
  · have := hp.length_eq
    simp at this; omega
  rintro e w3 ⟨v, ks, S3, rfl, hperm, hv, hx, hlive⟩
  refine ⟨_, rfl, ?_⟩
  rw [ds.2]
  have hsort : ks.mergeSort (leOf cmp) = (es.map (·.1)).mergeSort (leOf cmp) := sort_perm hO hT hperm
  rw [hsort] at hv
  obtain ⟨l, hl⟩ : ∃ l, l = (es.map (·.1)).mergeSort (leOf cmp) := ⟨_, rfl⟩
  rw [← hl] at hv
  have hv' : RepV w3 S3 m1 (.val (.slice kk) l) v := hv
  have h3 : At C 0 O0 w0 S0 m0 (mkS (jaEb kk vc l) (jaO kk vc es) []) (a2.put (some 13) v) w3 S3 m1 := by
    refine ((h2.grow0 hx hlive).putT (d := 13) (t := .val (.slice kk) l) (by omega) hv').told (fun t => ?_) rfl rfl
    show (envL (jaEb kk vc l) t).isAny = true ∨ envL (jaEb kk vc l) t = (bif Nat.beq t 13 then T.val (.slice kk) l else bif Nat.beq t 12 then T.any 0 else envL (jaEa vc) t)
    have hb : ∀ k, t ≠ k → Nat.beq t k = false := fun k hk => by cases hq : Nat.beq t k with
      | false => rfl
      | true => exact absurd (Nat.eq_of_beq_eq_true hq) hk
    by_cases e1 : t = 13
    · subst e1; exact .inr rfl
    by_cases e2 : t = 0
    · subst e2; exact .inr rfl
    by_cases e3 : t = 3
    · subst e3; exact .inr rfl
    refine .inl ?_
    simp only [jaEb, envL, hb _ e1, hb _ e2, hb _ e3, cond_false]
    rfl
  refine At.opsS (E' := jaEc kk vc l) (O' := jaO kk vc es) (ρ' := fun _ => none) (d' := []) hC rfl (fun j y hy => ?_) h3 rfl rfl (fun i o q => by cases q) (F.q3 es l) fun a4 w4 S4 m4 h4 _ d4 _ _ => ?_
  · rw [hat]
    match j, hy with
    | 0, hy => exact hy
    | 1, hy => exact hy
    | j + 2, hy => simp at hy
  rw [mkR_mkS] at h4
  rw [withD_self h4.tm.2]
  have hG : some (((), ((), ((es.map (·.1)).mergeSort (leOf cmp), ((((es.map (·.1)).mergeSort (leOf cmp)).length : Int), (0 : Int))))), (((), ()), (es, ()))) = some z := hG
  rw [← hl] at hG
  cases hG
  have lift : ∀ {s'}, At C 0 O0 w0 S0 m0 s' a4 w4 S4 m4 → At C np O0 w0 S0 m0 s' a4 w4 S4 m4 := fun h => ⟨h.rel, h.tm, h.ext, fun i u hi q => d4 i u (d1 i u (h0.keep i u hi q))⟩
  exact hQ .normal _ a4 w4 S4 m4 (fun R κ => rfl) (lift (h4.same (fun t => rfl) fun i o ho => by
    match i, ho with
    | 0, ho => exact ho
    | 1, ho => exact ho
    | i + 2, ho => cases ho))

/-! ### One number against another -/
def cmp1 (x y : Int) : Int := cmpI x y
theorem lt1 (x y : Int) : ltOf cmp1 x y = decide (x < y) := by
  unfold ltOf cmp1 cmpI
  by_cases h : x < y
  · simp [h]
  · by_cases h2 : x > y <;> simp [h, h2]
theorem swo1 : SWO (ltOf cmp1) where
  irrefl x := by rw [lt1]; simp
  trans x y z := by simp only [lt1, decide_eq_true_eq]; omega
  ntrans x y z := by simp only [lt1, decide_eq_false_iff_not]; omega
theorem tot1 (x y : Int) (h1 : ltOf cmp1 x y = false) (h2 : ltOf cmp1 y x = false) : x = y := by
  simp only [lt1, decide_eq_false_iff_not] at h1 h2; omega

/-! ### A row of one's own that is handed out -/
section
variable {P : Program} {kk : K} {w : World} {S : Cells} {m : Nat → Option MB}
theorem row_share {ks : List (El kk)} {v : Value} (hfl : kk.flat = true) (hpos : 0 < kk.size) (hr : StoRel (mkS [] [(1, .row kk false ks)] []).sto w S m) (hv : RepV w S m (.row 1) v) :
    ∃ S', RepV w S' (fun _ => none) (.val (.slice kk) ks) v ∧ Ext (OwnSt (mkS [] [(1, .row kk false ks)] []).sto m) w S m w S' m (fun _ _ => False) ∧ ∀ b x, S' b x → b < w.heap.size := by
  obtain ⟨u, hu, ev, -⟩ := repV_row (i := 1) hv
  subst ev
  obtain ⟨u', hu', A, cap, h0, h1, h2, h3, h4, h5, h6⟩ := hr.sto 1 (.row kk false ks) rfl
  rw [hu] at hu'; cases hu'
  rw [h0]
  by_cases hk : ks = []
  · subst hk
    exact ⟨S, .inr ⟨[_], ⟨A, cap, rfl, by simp, fun i x hx => by simp at hx⟩, by simp [Shut, T.isAgg, K.isAgg]⟩, (Ext.refl (fun _ _ => False) w S m) |> fun e => ⟨e.os, e.tape, e.output, e.size, e.maps, e.more, fun b x q => .inl q, fun b x q => q.elim, fun b x hb _ => e.cell b x hb fun q => q, fun b hb _ => e.block b hb fun _ q => q⟩, hr.live⟩
  · have hl : 0 < ks.length := List.length_pos_iff.2 hk
    have hA : A = some ⟨u.b, u.o, none⟩ := by
      cases A with
      | none => have := h3 rfl; omega
      | some a => rw [h4 a rfl (by omega)]
    subst hA
    have hcap : ks.length * kk.size ≤ cap * kk.size := Nat.mul_le_mul_right _ h1
    have hown : ∀ x, u.o ≤ x → x < u.o + cap * kk.size → Own u (.row kk false ks) u.b x := fun x a b => ⟨ks.length, cap, _, h0, rfl, a, b, fun q => by cases q⟩
    have hblk : u.b < w.heap.size := by
      have h := (h6 u.o (hown _ (Nat.le_refl _) (by have := Nat.mul_pos (show 0 < cap by omega) hpos; omega))).1
      obtain ⟨z, hz⟩ := Option.isSome_iff_exists.1 h
      exact cell_lt hz
    let S' : Cells := fun b x => S b x ∨ (b = u.b ∧ u.o ≤ x ∧ x < u.o + ks.length * kk.size)
    refine ⟨S', .inr ⟨[_], ⟨some ⟨u.b, u.o, none⟩, cap, rfl, h1, fun i x hx => ?_⟩, by simp [Shut, T.isAgg, K.isAgg]⟩, (Ext.refl (fun _ _ => False) w S m) |> fun e => ⟨e.os, e.tape, e.output, e.size, e.maps, fun b x q => .inl q, fun b x q => ?_, fun b x q => q.elim, fun b x hb _ => e.cell b x hb fun q => q, fun b hb _ => e.block b hb fun _ q => q⟩, fun b x q => ?_⟩
    · obtain ⟨cs, c1, c2, c3, -⟩ := h5 i x hx
      refine ⟨u.b, u.o, cs, rfl, c1, ⟨c2, fun j hj => .inr ⟨rfl, by omega, ?_⟩⟩, Rep.flat hfl c3⟩
      have hil := (List.getElem?_eq_some_iff.1 hx).1
      have : (i + 1) * kk.size ≤ ks.length * kk.size := Nat.mul_le_mul_right _ hil
      rw [Nat.add_mul, Nat.one_mul] at this
      omega
    · rcases q with q | ⟨e, _, _⟩
      · exact hr.live b x q
      · rw [e]; exact hblk
    · rcases q with q | ⟨e, a, b'⟩
      · exact .inl q
      · subst e
        exact .inr (.inl ⟨1, _, u, rfl, hu, hown x a (by omega)⟩)

/-- slices.Sort of few. -/
def SortFew (P : Program) (so : FuncId) (kk : K) (le : El kk → El kk → Bool) (B : Nat) : Prop := ∀ (w : World) (S : Cells) (m : Nat → Option MB) (ks : List (El kk)) (v : Value), ks.length ≤ B → StoRel (mkS [] [(1, .row kk false ks)] []).sto w S m → RepV w S m (.row 1) v →
  Calls P so #[v] w fun e w' => e = .returned (.tuple #[]) ∧ ∃ S', RepV w' S' (fun _ => none) (.val (.slice kk) (ks.mergeSort le)) v ∧ Ext (OwnSt (mkS [] [(1, .row kk false ks)] []).sto m) w S m w' S' m (fun _ _ => False) ∧ ∀ b x, S' b x → b < w'.heap.size

theorem sort_one {so : FuncId} {le : El kk → El kk → Bool} (hfl : kk.flat = true) (hpos : 0 < kk.size) (h : ∀ (A : Option Addr) (n cap : Nat) (w : World), n ≤ 1 → Calls P so #[.slice A n cap] w fun e w' => e = .returned (.tuple #[]) ∧ w' = w) : SortFew P so kk le 1 := by
  intro w S m ks v hn hr hv
  obtain ⟨S', q1, q2, q3⟩ := row_share hfl hpos hr hv
  obtain ⟨u, hu, ev, -⟩ := repV_row (i := 1) hv
  subst ev
  obtain ⟨u', hu', A, cap, h0, -⟩ := hr.sto 1 (.row kk false ks) rfl
  rw [hu] at hu'; cases hu'
  rw [h0] at q1 ⊢
  refine (h A ks.length cap w hn).mono ?_
  rintro e w' ⟨rfl, rfl⟩
  have hs : ks.mergeSort le = ks := by
    match ks, hn with
    | [], _ => simp
    | [a], _ => simp
    | a :: b :: r, hn => simp at hn
  rw [hs]
  exact ⟨rfl, S', q1, q2, q3⟩
end
end Go.Proofs.D
