/- op.Net's region that calls for the keys, in order. -/
import Derived.Test.YtnmpidmmhmphkaaDKeys
set_option linter.unusedVariables false
set_option linter.unusedSimpArgs false
namespace Go.Proofs.D
open Go.RowKit Go.Sort

theorem mkR_mkS {E : List (Nat × T)} {O : List (Nat × Obj)} {d : List Nat} : mkR E O (fun _ => none) d = mkS E O d := by
  unfold mkR mkS
  congr 1
  funext i
  unfold stoR
  cases stoL O i <;> rfl

def k8S (kk vc : K) : StSk := { env := [(2, .nils (eOp kk)), (3, .val .bool), (4, .mapr 0), (7, .nils (eOp kk))], objs := [.map kk vc] }
def k8O (kk vc : K) : StSk := { env := [(2, .nils (eOp kk)), (3, .val .bool), (4, .mapr 0), (7, .nils (eOp kk)), (32, .val (.slice kk)), (33, .val kI), (34, .val kI)], objs := [.map kk vc] }
def k8a (kk : K) (b0 : Bool) : List (Nat × T) := [(2, .nils (eOp kk)), (3, .val .bool b0), (4, .mapr 0), (7, .nils (eOp kk)), (30, .mapr 0)]
def k8b (kk : K) (b0 : Bool) (l : List (El kk)) : List (Nat × T) := [(2, .nils (eOp kk)), (3, .val .bool b0), (4, .mapr 0), (7, .nils (eOp kk)), (32, .val (.slice kk) l)]
def k8c (kk : K) (b0 : Bool) (l : List (El kk)) : List (Nat × T) := [(2, .nils (eOp kk)), (3, .val .bool b0), (4, .mapr 0), (7, .nils (eOp kk)), (32, .val (.slice kk) l), (33, .val kI l.length), (34, .val kI 0)]
def k8G (kk vc : K) (le : El kk → El kk → Bool) (v : (Unit × Bool × Unit × Unit) × (List (El kk × El vc) × Unit)) : Option ((Unit × Bool × Unit × Unit × List (El kk) × Int × Int) × (List (El kk × El vc) × Unit)) :=
  bif Nat.ble v.2.1.length 4294967296 then (let l := (v.2.1.map (·.1)).mergeSort le; some (((), (v.1.2.1, ((), ((), (l, ((l.length : Int), 0)))))), v.2)) else none
def k8Given (kk vc : K) (le : El kk → El kk → Bool) : Given := { hd := k8S kk vc, outs := [(.normal, k8O kk vc)], G := k8G kk vc le }

structure K8Facts (P : Program) (C : Ctx) (fn : Func) (kk vc : K) (kf sf cf : FuncId) (fk fs : Func) (ts1 ts2 : Array TypeId) : Prop where
  h34 : 34 < C.n
  hk : P.funcs[kf]? = some fk
  hkn : (fk.name == "runtime.NumGoroutine") = false
  hkb : fk.body.isSome = true
  hs : P.funcs[sf]? = some fs
  hsn : (fs.name == "runtime.NumGoroutine") = false
  hsb : fs.body.isSome = true
  r8 : (rops (bodyOf fn) 8).toList = [rg fn 8 0, rg fn 8 1, rg fn 8 2, rg fn 8 3, rg fn 8 4]
  c1 : (rg fn 8 1).op = .call { callee := .value (.func kf), args := #[.tmp 30], argTypes := ts1 }
  c2 : (rg fn 8 2).op = .call { callee := .value (.func sf), args := #[.tmp 31, .func cf], argTypes := ts2 }
  d : [(rg fn 8 1).dst, (rg fn 8 2).dst] = [some 31, some 32]
  g1 : (rg fn 8 1).guard = none
  g2 : (rg fn 8 2).guard = none
  q0 : ∀ (b0 : Bool) (es : List (El kk × El vc)), evalOps C (rops (bodyOf fn) 8).toList [rg fn 8 0] (fillSt (k8S kk vc) (((), (b0, ((), ()))), (es, ()))) (fun sF => some (factR [2, 3, 4, 7, 30] [0] sF)) = some (toldR (k8a kk b0) [(0, .map kk vc es)] (fun _ => none) [])
  q3 : ∀ (b0 : Bool) (es : List (El kk × El vc)) (l : List (El kk)), evalOps C (rops (bodyOf fn) 8).toList [rg fn 8 3, rg fn 8 4] (mkS (k8b kk b0 l) [(0, .map kk vc es)] []) (fun sF => some (factR [2, 3, 4, 7, 32, 33, 34] [0] sF)) = some (toldR (k8c kk b0 l) [(0, .map kk vc es)] (fun _ => none) [])

theorem k8_ok {P : Program} {C C2 : Ctx} {fn fk fs fg : Func} {kk vc : K} {kf sf cf gf : FuncId} {ts1 ts2 ts : Array TypeId} {mt tk tv : TypeId} {cmp : El kk → El kk → Int} (hC : CtxOk P C) (hC2 : CtxOk P C2) (F : K8Facts P C fn kk vc kf sf cf fk fs ts1 ts2) (B : KitFacts P C2 gf fg kk mt tk tv ts) (hfl : kk.flat = true)
    (hK : KeysCall P kf gf mt) (hS : SortedCall P sf gf cf kk (leOf cmp)) (hO : SWO (ltOf cmp)) (hT : ∀ x y, ltOf cmp x y = false → ltOf cmp y x = false → x = y) (hin : Inhabited (El kk)) : CodeOk P C 0 (.region 8 (rops (bodyOf fn) 8) false) (k8Given kk vc (leOf cmp)) := by
  intro O0 w0 S0 m0 v z a w S m hG h Q hQ
  obtain ⟨⟨_, b0, _, _⟩, es, _⟩ := v
  have hG : k8G kk vc (leOf cmp) (((), (b0, ((), ()))), (es, ())) = some z := hG
  unfold k8G at hG
  obtain ⟨hle, hG⟩ := bif_some hG
  have hle := Nat.le_of_ble_eq_true hle
  have h34 := F.h34
  have hat : ∀ j, (rops (bodyOf fn) 8)[j]? = [rg fn 8 0, rg fn 8 1, rg fn 8 2, rg fn 8 3, rg fn 8 4][j]? := fun j => by rw [← Array.getElem?_toList, F.r8]
  have ds := F.d
  simp only [List.cons.injEq, and_true] at ds
  refine (wpIn_wide (n := 0)).1 ?_
  show Code.wpIn (Fr none) 0 P _ _ a w
  rw [← withD_self h.tm.2]
  refine wpIn_region ?_
  rw [show (rops (bodyOf fn) 8).size = 5 by rw [← Array.length_toList, F.r8]; rfl]
  show wpOpsIn _ _ _ _ _ (List.range' 0 [rg fn 8 0].length ++ (1 :: 2 :: (List.range' 3 [rg fn 8 3, rg fn 8 4].length ++ []))) _ _
  refine At.opsS (E' := k8a kk b0) (O' := [(0, .map kk vc es)]) (ρ' := fun _ => none) (d' := []) hC rfl (fun j y hy => ?_) h rfl rfl (fun i o q => by cases q) (F.q0 b0 es) fun a1 w1 S1 m1 h1 _ _ _ _ => ?_
  · rw [hat]
    match j, hy with
    | 0, hy => exact hy
    | j + 1, hy => simp at hy
  rw [mkR_mkS] at h1
  obtain ⟨um, hu, g0, gf', fs1, clock, gb, gM, gB⟩ := h1.rel.sto 0 (.map kk vc es) rfl
  have e30 : a1.eval (.tmp 30) = .map (some um.b) := by
    obtain ⟨u, kb, q1, q2, q3⟩ := repV_mapr (i := 0) (h1.rel.env 30)
    rw [hu] at q1; cases q1
    exact q3.trans g0
  refine opsIn_cons (hat 1) F.g1 (callIn F.hk F.hkn F.hkb F.c1 (by simp [e30]) (hK (some um.b) w1) h1.tm.2 ?_)
  rintro e w2 ⟨rfl, rfl⟩
  refine ⟨_, rfl, ?_⟩
  rw [ds.1]
  have hal := Gr.alloc w1 (.cells #[.map (some um.b)] mt)
  have h2 := (h1.grow0 (hal.ext S1) (fun b x q => Nat.lt_of_lt_of_le (h1.rel.live b x q) hal.size)).putT (d := 31) (t := .any 0) (v := .func (.func gf) #[] #[.pointer (some ⟨w1.heap.size, 0, none⟩)]) (by omega) (.inl rfl)
  obtain ⟨a2, ha2⟩ : ∃ a2, a2 = a1.put (some 31) (.func (.func gf) #[] #[.pointer (some ⟨w1.heap.size, 0, none⟩)]) := ⟨_, rfl⟩
  rw [← ha2] at h2 ⊢
  have e31 : a2.eval (.tmp 31) = .func (.func gf) #[] #[.pointer (some ⟨w1.heap.size, 0, none⟩)] := by
    have : 31 < a1.tmps.size := by rw [h1.tm.1]; omega
    show a2.tmps.getD 31 undef = _
    rw [ha2]; simp [Act.put, this]
  have hbx : (w1.alloc (.cells #[.map (some um.b)] mt)).cell? ⟨w1.heap.size, 0, none⟩ = some (.map (some um.b)) := by
    unfold World.cell?
    rw [heap_alloc_new]; rfl
  have hkg := kgives hC2 B hfl (gM.keep (grown_keeps hal)) gB ((hal.block _ (Array.getElem?_eq_some_iff.1 gb).1 (by simp)).trans gb) hbx
  refine opsIn_cons (hat 2) F.g2 (callIn F.hs F.hsn F.hsb F.c2 (by simp [e31]; rfl) (hS _ S1 _ _ _ hkg h2.rel.live hle fun ks hp => ?_) h2.tm.2 ?_)
  · have := hp.length_eq
    simp at this; omega
  rintro e w3 ⟨v, ks, S3, rfl, hperm, hv, hx, hlive⟩
  refine ⟨_, rfl, ?_⟩
  rw [ds.2]
  have hsort : ks.mergeSort (leOf cmp) = (es.map (·.1)).mergeSort (leOf cmp) := sort_perm hO hT hperm
  rw [hsort] at hv
  obtain ⟨l, hl⟩ : ∃ l, l = (es.map (·.1)).mergeSort (leOf cmp) := ⟨_, rfl⟩
  rw [← hl] at hv
  have hv' : RepV w3 S3 m1 (.val (.slice kk) l) v := hv
  have h3 : At C 0 O0 w0 S0 m0 (mkS (k8b kk b0 l) [(0, .map kk vc es)] []) (a2.put (some 32) v) w3 S3 m1 := by
    refine ((h2.grow0 hx hlive).putT (d := 32) (t := .val (.slice kk) l) (by omega) hv').told (fun t => ?_) rfl rfl
    show (envL (k8b kk b0 l) t).isAny = true ∨ envL (k8b kk b0 l) t = (bif Nat.beq t 32 then T.val (.slice kk) l else bif Nat.beq t 31 then T.any 0 else envL (k8a kk b0) t)
    have hb : ∀ k, t ≠ k → Nat.beq t k = false := fun k hk => by cases hq : Nat.beq t k with
      | false => rfl
      | true => exact absurd (Nat.eq_of_beq_eq_true hq) hk
    by_cases e1 : t = 32
    · subst e1; exact .inr rfl
    by_cases e2 : t = 2
    · subst e2; exact .inr rfl
    by_cases e3 : t = 3
    · subst e3; exact .inr rfl
    by_cases e4 : t = 4
    · subst e4; exact .inr rfl
    by_cases e5 : t = 7
    · subst e5; exact .inr rfl
    refine .inl ?_
    simp only [k8b, envL, hb _ e1, hb _ e2, hb _ e3, hb _ e4, hb _ e5, cond_false]
    rfl
  refine At.opsS (E' := k8c kk b0 l) (O' := [(0, .map kk vc es)]) (ρ' := fun _ => none) (d' := []) hC rfl (fun j y hy => ?_) h3 rfl rfl (fun i o q => by cases q) (F.q3 b0 es l) fun a4 w4 S4 m4 h4 _ _ _ _ => ?_
  · rw [hat]
    match j, hy with
    | 0, hy => exact hy
    | 1, hy => exact hy
    | j + 2, hy => simp at hy
  rw [mkR_mkS] at h4
  rw [withD_self h4.tm.2]
  have hG : some (((), (b0, ((), ((), ((es.map (·.1)).mergeSort (leOf cmp), ((((es.map (·.1)).mergeSort (leOf cmp)).length : Int), (0 : Int))))))), (es, ())) = some z := hG
  rw [← hl] at hG
  cases hG
  exact hQ .normal _ a4 w4 S4 m4 (fun R κ => rfl) (h4.same (fun t => rfl) fun i o ho => by
    match i, ho with
    | 0, ho => exact ho
    | i + 1, ho => cases ho)
end Go.Proofs.D
