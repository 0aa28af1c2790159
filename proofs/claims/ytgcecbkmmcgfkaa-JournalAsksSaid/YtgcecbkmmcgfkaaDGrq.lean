/- A round of the loop that groups. -/
import Derived.Test.YtgcecbkmmcgfkaaDGrp
set_option linter.unusedVariables false
set_option linter.unusedSimpArgs false
namespace Go.Proofs.D
open Go.RowKit

section
variable {P : Program} {C : Ctx} {fn : Func} {kk : K} {t tk tv : TypeId} {a a' : Act} {w w' : World} {S S' : Cells} {m m' : Nat → Option MB} {O0 : Cells} {w0 : World} {S0 : Cells} {m0 : Nat → Option MB}

theorem stoR_cons {i j : Nat} {o : Obj} {O : List (Nat × Obj)} {ρ : Nat → Option Obj} : stoR ((j, o) :: O) ρ i = if i = j then some o else stoR O ρ i := by
  unfold stoR
  simp only [stoL]
  by_cases e : i = j
  · subst e; simp
  · have hb : Nat.beq i j = false := by cases hq : Nat.beq i j with
      | false => rfl
      | true => exact absurd (Nat.eq_of_beq_eq_true hq) e
    rw [hb, if_neg e]; rfl
theorem mkR_sto {E : List (Nat × T)} {O : List (Nat × Obj)} {ρ : Nat → Option Obj} {d : List Nat} {i : Nat} : (mkR E O ρ d).sto i = stoR O ρ i := rfl
theorem stoR_nil {i : Nat} {ρ : Nat → Option Obj} : stoR [] ρ i = ρ i := rfl

theorem run_tuple0 {i st : Int} {v : Value} {r : Nat} {u : MB} (h : m r = some u) (hu : u.hv = v) (hs : ∃ A n cap, u.hv = .slice A n cap) : RepV w S m (.tup (.tc (.row r) (.tc (.val kI st) .tn))) (.tuple #[v, .int .i64 st]) := by
  refine .inr ⟨[_], ⟨[v, .int .i64 st], ⟨v, _, rfl, .inr ⟨[v], ⟨u, h, by rw [hu], hs⟩, by simp [Shut, T.isAgg]⟩, ⟨_, _, rfl, .inr ⟨[.int .i64 st], rfl, by simp [Shut, T.isAgg, K.isAgg]⟩, rfl⟩⟩, rfl⟩, by simp [Shut, T.isAgg]⟩

theorem grp_tail (hC : CtxOk P C) (F : GrpFacts P C fn kk t tk tv) {b0 q : Bool} {xs : List (El (eOp kk))} {n : Int} {i : Nat} {bm : Nat} {es : Es kk} {hs : List (El kk × El .hdr)} {fs : Array MapEntry} {clock : Nat}
    (hbO : (∀ x, O0 bm x) ∨ w0.heap.size ≤ bm) (h : At C 0 O0 w0 S0 m0 (mkR (gB3 b0 xs n i q) [] (rowS es) []) a w S m) (G : Grp w S m bm es hs fs clock) {x : El (eOp kk)} (hx : xs[i]? = some x) (hi : i < 100000) (hel : es.length ≤ i) (hvl : ∀ p ∈ es, p.2.length ≤ i)
    {Q : Exit → Act → World → Prop} (hQ : ∀ a' w' S' m' hs' fs' clock', At C 0 O0 w0 S0 m0 (mkR (gB b0 xs n ((i + 1 : Nat) : Int)) [] (rowS (gAdd es x.1 x.2.1)) []) a' w' S' m' → Grp w' S' m' bm (gAdd es x.1 x.2.1) hs' fs' clock' → Q .normal (withD [] a') w') :
    (Code.seq (.block 1 (.seq (.region 4 (rops (bodyOf fn) 4) false) (.region 5 (rops (bodyOf fn) 5) false))) (.region 6 (rops (bodyOf fn) 6) false)).wpIn (Fr none) 0 P Q (withD [] a) w := by
  have h30 := F.h30
  -- the loop's variable
  refine wpIn_seq (wpIn_block (wpIn_seq (At.regR (E' := gB4 b0 xs n i) (O' := [(1006, .cell (eOp kk) false (.val (eOp kk) x))]) (ρ' := rowS es) (d' := [6]) hC rfl h rfl rfl (fun i o q => rowS_ge q) ((F.q4 b0 xs n i q _).trans (nthK_get hx)) fun a1 w1 S1 m1 h1 k1 d1 x1 => ?_)))
  have G1 := G.step h (noMapR rfl rowS_noMap) x1
  show Code.wpIn _ _ _ _ _ _ _
  refine wpIn_region ?_
  have hsz : (rops (bodyOf fn) 5).size = 11 := by rw [← Array.length_toList, F.h5]; rfl
  have hat : ∀ j, (rops (bodyOf fn) 5)[j]? = [go5 fn 0, go5 fn 1, go5 fn 2, go5 fn 3, go5 fn 4, go5 fn 5, go5 fn 6, go5 fn 7, go5 fn 8, go5 fn 9, go5 fn 10][j]? := fun j => by rw [← Array.getElem?_toList, F.h5]
  rw [hsz]
  show wpOpsIn _ _ _ _ _ (List.range' 0 [go5 fn 0, go5 fn 1, go5 fn 2, go5 fn 3, go5 fn 4, go5 fn 5].length ++ (6 :: (List.range' 7 [go5 fn 7, go5 fn 8, go5 fn 9].length ++ [10]))) _ _
  refine At.opsR (E' := gB5 b0 xs n i x.1) (O' := [(1025, .row kI false [x.2.1])]) (ρ' := rowS es) (d' := [25, 6]) hC rfl (fun j y hy => ?_) h1 rfl rfl (fun i o q => rowS_ge q) (F.q5a b0 xs n i x _) fun a2 w2 S2 m2 h2 k2 d2 x2 => ?_
  · rw [hat]
    match j, hy with
    | 0, hy => exact hy
    | 1, hy => exact hy
    | 2, hy => exact hy
    | 3, hy => exact hy
    | 4, hy => exact hy
    | 5, hy => exact hy
    | j + 6, hy => simp at hy
  have G2 := G1.step h1 (noMapR rfl rowS_noMap) x2
  -- the entry
  have hnm2 := noMapR (E := gB5 b0 xs n i x.1) (O := [(1025, .row kI false [x.2.1])]) (d := [25, 6]) rfl (rowS_noMap (es := es))
  obtain ⟨um, u1, u2, u3⟩ := G2.um
  have e19 : a2.eval (.tmp 19) = .map (some bm) := by
    obtain ⟨ub, kb, hub, ex, ehv⟩ := repV_mapr (h2.rel.env 19)
    rw [u1] at hub; cases hub
    exact ehv.trans u2
  obtain ⟨cy, ry, sy⟩ : ∃ cs, Rep w2 S2 kk x.1 cs ∧ Shut kk.isAgg cs (a2.eval (.tmp 21)) := by
    rcases (h2.rel.env 21 : RepV w2 S2 m2 (.val kk x.1) _) with q | q
    · cases q
    · exact q
  obtain ⟨fs1, clock1, j, f, hs1, hrun, hf1, hB1, hM1, hj1, hcase⟩ := entry_ok (P := P) hC.ty F.ht F.hfl F.hm ((hC.ty _ _ F.hz).run_zero (w := w2)) G2.hb G2.hM G2.hB ry sy
  refine opsIn_cons (hat 6) F.m6g ⟨fun _ _ => trivial, ?_⟩
  rw [Oper.semAt_eq _ _ _ (fun c q => by rw [F.m6] at q; cases q)]
  have r6 : (execOp (withD [] a2).eval (go5 fn 6)).run P w2 = .ok (.value (.tuple #[f.val, goInt f.born])) (mapAt w2 bm fs1 clock1) := by
    have he : (withD [] a2).eval = a2.eval := by funext x; cases x <;> rfl
    simp [execOp, F.m6, he, e19, Sem.run_bind, hrun]
  rw [r6, Oper.uponIn_value, F.m6d, withD_put]
  obtain ⟨h3, k3, hb3⟩ := h2.mapSet hnm2 G2.hb hbO (fs' := fs1) (clock' := clock1)
  -- the key's row, by itself
  have hrow : ∃ (m4 : Nat → Option MB) (vs : List Int) (es1 : Es kk), At C 0 O0 w0 S0 m0 (mkR (gB6 b0 xs n i f.born) [(1025, .row kI false [x.2.1]), (99001, .row kI false vs)] (fun l => if l = 100000 + j then none else rowS es l) [98001, 25, 6]) (a2.put (some 26) (.tuple #[f.val, goInt f.born])) (mapAt w2 bm fs1 clock1) S2 m4 ∧
      (∀ i u, m2 i = some u → m4 i = some u) ∧ vs.length ≤ i ∧ hs1.map (·.1) = es1.map (·.1) ∧ es1[j]? = some (x.1, vs) ∧ gAdd es x.1 x.2.1 = es1.set j (x.1, vs ++ [x.2.1]) ∧ j ≤ i ∧ (∀ l, l ≠ j → es1[l]? = es[l]?) ∧ (∀ l p, l ≠ j → hs1[l]? = some p → hs[l]? = some p) := by
    have hn1 : m2 99001 = none := (h2.rel.fresh 98001 (by omega) rfl).1
    have done : ∀ d, elemN d [98001, 25, 6] = false → elemN d [25, 6] = false := fun d hd => by
      simp only [elemN, Bool.or_eq_false_iff] at hd ⊢; exact hd.2
    have put1 : ∀ (u : MB), (∀ d, d < 99000 → elemN d [98001, 25, 6] = false → putM1 m2 99001 u (1000 + d) = none ∧ ∀ k, k < 1000 → putM1 m2 99001 u (1000000 + 1000 * d + k) = none) ∧ ∀ i, 100000000 ≤ i → putM1 m2 99001 u i = none := fun u => ⟨fun d hd hn => by
        have hne : d ≠ 98001 := fun e => by subst e; simp [elemN] at hn
        obtain ⟨g1, g2⟩ := h2.rel.fresh d hd (done d hn)
        unfold putM1
        exact ⟨by rw [if_neg (by omega)]; exact g1, fun k hk => by rw [if_neg (by omega)]; exact g2 k hk⟩, fun i hi => by
        unfold putM1; rw [if_neg (by omega)]; exact h2.rel.top i hi⟩
    have env : ∀ (m4 : Nat → Option MB) (u : MB), (∀ i u, m2 i = some u → m4 i = some u) → m4 99001 = some u → u.hv = f.val → (∃ A n cap, u.hv = .slice A n cap) → ∀ l, RepV (mapAt w2 bm fs1 clock1) S2 m4 ((mkR (gB6 b0 xs n i f.born) [] (fun _ => none) []).env l) ((a2.put (some 26) (.tuple #[f.val, goInt f.born])).tmps.getD l undef) := by
      intro m4 u hm4 hu1 hu2 hu3
      refine env_of fun p hp => ?_
      have old : ∀ l T, l ≠ 26 → RepV (mapAt w2 bm fs1 clock1) S2 m2 T (a2.tmps.getD l undef) → RepV (mapAt w2 bm fs1 clock1) S2 m4 T ((a2.put (some 26) (.tuple #[f.val, goInt f.born])).tmps.getD l undef) := fun l T hl hv => by
        rw [put_other (by simpa using fun e => hl e.symm)]; exact hv.keep (Keeps.refl ..) hm4
      simp only [gB6, List.mem_cons, List.not_mem_nil, or_false] at hp
      rcases hp with e | e | e | e | e | e | e | e | e <;> subst e
      · exact old 2 _ (by decide) (h3.rel.env 2)
      · exact old 3 _ (by decide) (h3.rel.env 3)
      · exact old 4 _ (by decide) (h3.rel.env 4)
      · exact old 13 _ (by decide) (h3.rel.env 13)
      · exact old 14 _ (by decide) (h3.rel.env 14)
      · exact old 15 _ (by decide) (h3.rel.env 15)
      · exact old 19 _ (by decide) (h3.rel.env 19)
      · exact old 25 _ (by decide) (h3.rel.env 25)
      · have : 26 < a2.tmps.size := by rw [h2.tm.1]; omega
        have e2 : (a2.put (some 26) (.tuple #[f.val, goInt f.born])).tmps.getD 26 undef = .tuple #[f.val, goInt f.born] := by simp [Act.put, this]
        rw [e2]
        exact run_tuple0 (i := 0) hu1 hu2 hu3
    rcases hcase with ⟨ix, ehs⟩ | ⟨ix, ej, ev, ehs⟩
    · -- it is there
      subst ehs
      rw [ixK_keys G2.keys] at ix
      obtain ⟨vs, hes, hadd⟩ := gAdd_found (d := x.2.1) F.hfl ix
      obtain ⟨u, hu1, hu2⟩ := G2.rows j _ hj1
      have hsj : (mkR (gB5 b0 xs n i x.1) [(1025, Obj.row kI false [x.2.1])] (rowS es) [25, 6]).sto (100000 + j) = some (.row kI false vs) := by
        rw [mkR_sto, stoR_cons, if_neg (by omega), stoR_nil]; exact rowS_at hes
      have st := StoRel.move h3.rel.toStoRel hsj hu1 hn1 rfl
      have st2 := st.trans (StoRel.less st.rel (σ' := (mkR (gB6 b0 xs n i f.born) [(1025, .row kI false [x.2.1]), (99001, .row kI false vs)] (fun l => if l = 100000 + j then none else rowS es l) [98001, 25, 6]).sto) fun l o hl => by
        rw [mkR_sto, stoR_cons, stoR_cons, stoR_nil] at hl
        by_cases e1 : l = 1025
        · rw [if_pos e1] at hl; subst e1
          rw [upd_ne (by omega), upd_ne (by omega)]
          rw [mkR_sto, stoR_cons, if_pos rfl]; exact hl
        rw [if_neg e1] at hl
        by_cases e2 : l = 99001
        · rw [if_pos e2] at hl; subst e2
          rw [upd_ne (by omega), upd_eq]; exact hl
        rw [if_neg e2] at hl
        by_cases e3 : l = 100000 + j
        · rw [if_pos e3] at hl; cases hl
        rw [if_neg e3] at hl
        rw [upd_ne e3, upd_ne e2]
        rw [mkR_sto, stoR_cons, if_neg e1, stoR_nil]; exact hl)
      have hus : ∃ A n cap, u.hv = .slice A n cap := by
        obtain ⟨u', g1, A, cap, g2, _⟩ := h3.rel.sto _ _ hsj
        rw [hu1] at g1; cases g1
        exact ⟨A, _, cap, g2⟩
      refine ⟨putM1 m2 99001 u, vs, es, h3.ghostR st2 (h3.tm.put _ _) (env _ u (putM1_old hn1) putM1_new hu2 hus) (put1 u).1 (put1 u).2, putM1_old hn1, hvl _ (List.mem_of_getElem? hes), G2.keys, hes, hadd, ?_, fun l _ => rfl, fun l p _ q => q⟩
      have := (List.getElem?_eq_some_iff.1 hes).1
      omega
    · -- it is new
      rw [ixK_keys G2.keys] at ix
      have hlen : hs.length = es.length := by simpa using congrArg List.length G2.keys
      have st := StoRel.newNil h3.rel.toStoRel (id := 99001) hn1 kI false
      have st2 := st.trans (StoRel.less st.rel (σ' := (mkR (gB6 b0 xs n i f.born) [(1025, .row kI false [x.2.1]), (99001, .row kI false [])] (fun l => if l = 100000 + j then none else rowS es l) [98001, 25, 6]).sto) fun l o hl => by
        rw [mkR_sto, stoR_cons, stoR_cons, stoR_nil] at hl
        by_cases e1 : l = 1025
        · rw [if_pos e1] at hl; subst e1
          rw [upd_ne (by omega)]
          rw [mkR_sto, stoR_cons, if_pos rfl]; exact hl
        rw [if_neg e1] at hl
        by_cases e2 : l = 99001
        · rw [if_pos e2] at hl; subst e2
          rw [upd_eq]; exact hl
        rw [if_neg e2] at hl
        by_cases e3 : l = 100000 + j
        · rw [if_pos e3] at hl; cases hl
        rw [if_neg e3] at hl
        rw [upd_ne e2]
        rw [mkR_sto, stoR_cons, if_neg e1, stoR_nil]; exact hl)
      refine ⟨putM1 m2 99001 ⟨.slice none 0 0, 0, 0, .arr 0 kI⟩, [], es ++ [(x.1, [])], h3.ghostR st2 (h3.tm.put _ _) (env _ ⟨.slice none 0 0, 0, 0, .arr 0 kI⟩ (putM1_old hn1) putM1_new ev.symm ⟨none, 0, 0, rfl⟩) (put1 _).1 (put1 _).2, putM1_old hn1, Nat.zero_le _, ?_, ?_, ?_, ?_, fun l hl => ?_, fun l p hl hp => ?_⟩
      · rw [ehs]; simp [G2.keys]
      · rw [ej, hlen]; simp
      · rw [gAdd_new ix, ej, hlen]
      · omega
      · rw [List.getElem?_append]
        split
        · rfl
        · rename_i q
          have : es.length ≠ l := fun e => hl (by rw [ej, hlen]; exact e.symm)
          rw [List.getElem?_eq_none (by simp; omega), List.getElem?_eq_none (by omega)]
      · rw [ehs, List.getElem?_append] at hp
        split at hp
        · exact hp
        · rename_i q
          have : hs.length ≠ l := fun e => hl (by rw [ej]; exact e.symm)
          rw [List.getElem?_eq_none (by simp; omega)] at hp; cases hp
  obtain ⟨m4, vs, es1, h4, d4, hvs, hkeys, hes1, hadd, hji, hsame, hsame2⟩ := hrow
  obtain ⟨um4, v1, v2, v3⟩ : ∃ um, m4 0 = some um ∧ um.hv = .map (some bm) ∧ um.b = bm := ⟨um, d4 _ _ u1, u2, u3⟩
  -- append
  have hnm4 : ∀ l o, (if l = 100000 + j then none else rowS es l) = some o → o.isMap = false := fun l o q => by
    split at q
    · cases q
    · exact rowS_noMap l o q
  have hge4 : ∀ l o, (if l = 100000 + j then none else rowS es l) = some o → 100000 ≤ l := fun l o q => by
    split at q
    · cases q
    · exact rowS_ge q
  refine At.opsR (E' := gB7 b0 xs n i f.born) (O' := [(1027, .row kI false (vs ++ [x.2.1]))]) (ρ' := fun l => if l = 100000 + j then none else rowS es l) (d' := [27, 98001, 25, 6]) hC rfl (fun j y hy => ?_) h4 rfl rfl hge4 ((F.q5b b0 xs n i f.born x.2.1 vs _).trans (room_ok (by omega))) fun a5 w5 S5 m5 h5 k5 d5 x5 => ?_
  · rw [hat]
    match j, hy with
    | 0, hy => exact hy
    | 1, hy => exact hy
    | 2, hy => exact hy
    | j + 3, hy => simp at hy
  have hnmE := noMapR (E := gB6 b0 xs n i f.born) (O := [(1025, .row kI false [x.2.1]), (99001, .row kI false vs)]) (d := [98001, 25, 6]) rfl hnm4
  have hno5 := h4.notOwn hnmE hb3 rfl
  have hlt5 := (Array.getElem?_eq_some_iff.1 hb3).1
  have hb5 : w5.heap[bm]? = some (.map fs1 clock1) := (x5.block bm hlt5 hno5).trans hb3
  have hM5 := (hM1.keep k3).keep k5
  have hS5 : ∀ y, ¬ S5 bm y := fun y q => by
    rcases x5.less bm y q with q | q | q
    · exact G2.noS y q
    · exact hno5 y q
    · omega
  -- the store
  obtain ⟨u7, w1', w2', w3'⟩ := repV_row (i := 1027) (h5.rel.env 27)
  have f19 : a5.eval (.tmp 19) = .map (some bm) := by
    obtain ⟨ub, kb, hub, ex, ehv⟩ := repV_mapr (h5.rel.env 19)
    rw [d5 _ _ v1] at hub; cases hub
    exact ehv.trans v2
  have f28 : a5.eval (.tmp 28) = goInt f.born := repV_int (h5.rel.env 28)
  have f27 : a5.eval (.tmp 27) = u7.hv := w2'
  obtain ⟨fs2, hrun2, hB2, hM2⟩ := store_ok (P := P) (t := t) hb5 hM5 hB1 hf1 hj1 (v := u7.hv) w3'
  refine opsIn_cons (hat 10) F.s10g ⟨fun _ _ => trivial, ?_⟩
  rw [Oper.semAt_eq _ _ _ (fun c q => by rw [F.s10] at q; cases q)]
  have r10 : (execOp (withD [] a5).eval (go5 fn 10)).run P w5 = .ok .skip (mapAt w5 bm fs2 clock1) := by
    have he : (withD [] a5).eval = a5.eval := by funext x; cases x <;> rfl
    simp [execOp, F.s10, he, f19, f27, f28, Sem.run_bind, hrun2]
  rw [r10, Oper.uponIn_skip, F.s10d, withD_put]
  show Code.wpIn _ _ _ _ _ (withD [] a5) _
  have hnm5 := noMapR (E := gB7 b0 xs n i f.born) (O := [(1027, .row kI false (vs ++ [x.2.1]))]) (d := [27, 98001, 25, 6]) rfl hnm4
  obtain ⟨h6, k6, hb6⟩ := h5.mapSet hnm5 hb5 hbO (fs' := fs2) (clock' := clock1)
  refine At.regR (E' := gB b0 xs n (IntKind.i64.wrap ((i : Int) + 1))) (O' := [(1027, .row kI false (vs ++ [x.2.1]))]) (ρ' := fun l => if l = 100000 + j then none else rowS es l) (d' := [27, 98001, 25, 6]) hC rfl h6 rfl rfl hge4 (F.q6 b0 xs n i f.born _ _) fun a7 w7 S7 m7 h7 k7 d7 x7 => ?_
  rw [succ_i64 (by omega)] at h7
  have hno6 := h6.notOwn hnm5 hb6 rfl
  have hlt6 := (Array.getElem?_eq_some_iff.1 hb6).1
  have hb7 : w7.heap[bm]? = some (.map fs2 clock1) := (x7.block bm hlt6 hno6).trans hb6
  have hS7 : ∀ y, ¬ S7 bm y := fun y q => by
    rcases x7.less bm y q with q | q | q
    · exact hS5 y q
    · exact hno6 y q
    · omega
  have hM7 := (hM2.keep k6).keep k7
  have hjl : j < es1.length := (List.getElem?_eq_some_iff.1 hes1).1
  have hju : m7 1027 = some u7 := d7 _ _ w1'
  let mC : Nat → Option MB := fun l => if l = 100000 + j then m7 1027 else if l = 0 then m7 0 else if 100000 ≤ l ∧ l < 1000000 then m7 l else none
  have hmC : ∀ l, l ≠ 100000 + j → 100000 ≤ l → l < 1000000 → mC l = m7 l := fun l h1 h2 h3 => by
    show (if l = 100000 + j then m7 1027 else if l = 0 then m7 0 else if 100000 ≤ l ∧ l < 1000000 then m7 l else none) = _
    rw [if_neg h1, if_neg (by omega), if_pos ⟨h2, h3⟩]
  have hmCj : mC (100000 + j) = m7 1027 := if_pos rfl
  have hmC0 : mC 0 = m7 0 := by
    show (if 0 = 100000 + j then m7 1027 else if 0 = 0 then m7 0 else _) = _
    rw [if_neg (by omega), if_pos rfl]
  refine hQ a7 w7 S7 mC (hs1.set j (x.1, u7.hv)) fs2 clock1 (h7.ren (fun l => if l = 100000 + j then 1027 else l) (fun l l' o p ho hp e => ?_) (fun l o ho => ?_) h7.tm (fun l => ?_) (fun d hd hn => ?_) (fun l hl => ?_)) ⟨?_, hb7, hM7, hB2, ?_, fun l p hp => ?_, hS7⟩
  · have g1 : 100000 ≤ l := rowS_ge (show rowS _ l = some o from ho)
    have g2 : 100000 ≤ l' := rowS_ge (show rowS _ l' = some p from hp)
    have e : (if l = 100000 + j then 1027 else l) = if l' = 100000 + j then 1027 else l' := e
    split at e <;> split at e <;> omega
  · obtain ⟨jj, p, el, hp, eo⟩ := rowS_inv (show rowS _ l = some o from ho)
    subst el; subst eo
    rw [hadd] at hp
    by_cases e : jj = j
    · subst e
      rw [List.getElem?_set_self hjl] at hp; cases hp
      rw [if_pos rfl]
      exact ⟨by rw [mkR_sto, stoR_cons, if_pos rfl], hmCj, rfl⟩
    · rw [List.getElem?_set_ne (Ne.symm e), hsame jj e] at hp
      have hlt := (List.getElem?_eq_some_iff.1 hp).1
      rw [if_neg (by omega)]
      refine ⟨?_, hmC _ (by omega) (by omega) (by omega), rfl⟩
      rw [mkR_sto, stoR_cons, if_neg (by omega), stoR_nil, if_neg (by omega)]
      exact rowS_at hp
  · have hv := h7.rel.env l
    show RepV w7 S7 mC (envL (gB b0 xs n ((i + 1 : Nat) : Int)) l) _
    have hv : RepV w7 S7 m7 (envL (gB b0 xs n ((i + 1 : Nat) : Int)) l) (a7.tmps.getD l undef) := hv
    by_cases e : l = 4
    · subst e
      obtain ⟨u, kb, g1, g2, g3⟩ := repV_mapr (i := 0) hv
      exact .inr ⟨[_], ⟨u, by rw [hmC0]; exact g1, rfl, kb, g3.symm.trans g2⟩, by rw [g3]; show Shut false _ _; simp [Shut]⟩
    · skip
      by_cases e1 : l = 2
      · subst e1; exact hv
      by_cases e2 : l = 3
      · subst e2; exact hv
      by_cases e3 : l = 13
      · subst e3; exact hv
      by_cases e4 : l = 14
      · subst e4; exact hv
      by_cases e5 : l = 15
      · subst e5; exact hv
      have hb : ∀ k, l ≠ k → Nat.beq l k = false := fun k hk => by cases hq : Nat.beq l k with
        | false => rfl
        | true => exact absurd (Nat.eq_of_beq_eq_true hq) hk
      refine .inl ?_
      simp only [gB, envL, hb _ e, hb _ e1, hb _ e2, hb _ e3, hb _ e4, hb _ e5, cond_false]
      rfl
  · show (if 1000 + d = 100000 + j then m7 1027 else if 1000 + d = 0 then m7 0 else if 100000 ≤ 1000 + d ∧ 1000 + d < 1000000 then m7 (1000 + d) else none) = none
    rw [if_neg (by omega), if_neg (by omega), if_neg (by omega)]
  · show (if l = 100000 + j then m7 1027 else if l = 0 then m7 0 else if 100000 ≤ l ∧ l < 1000000 then m7 l else none) = none
    rw [if_neg (by omega), if_neg (by omega), if_neg (by omega)]
  · exact ⟨um4, by rw [hmC0]; exact d7 _ _ (d5 _ _ v1), v2, v3⟩
  · rw [hadd, List.map_set, List.map_set, hkeys]
  · by_cases e : l = j
    · subst e
      have : l < hs1.length := (List.getElem?_eq_some_iff.1 hj1).1
      rw [List.getElem?_set_self this] at hp; cases hp
      exact ⟨u7, by rw [hmCj]; exact hju, rfl⟩
    · rw [List.getElem?_set_ne (Ne.symm e)] at hp
      have hlt := (List.getElem?_eq_some_iff.1 (hsame2 l p e hp)).1
      have hlen : hs.length = es.length := by simpa using congrArg List.length G2.keys
      obtain ⟨u, g1, g2⟩ := G2.rows l p (hsame2 l p e hp)
      exact ⟨u, by rw [hmC _ (by omega) (by omega) (by omega)]; exact d7 _ _ (d5 _ _ (d4 _ _ g1)), g2⟩
end
end Go.Proofs.D
