/- What the small configurations are. -/
import Derived.Test.YtmhbfandkefnaaaFnOrd
import Derived.Test.YtmhbfandkefnaaaPLib
import Derived.Test.YtmhbfandkefnaaaDOpen
set_option linter.unusedVariables false
namespace Go.Proofs.Pure
open Go.Proofs.D Go.Proofs.F

def keysOf (s w : Int) : List (Int × Int × Int × Unit) := match pledgeref04_All s w with | some l => l | none => []
def dsOf (s w a b : Int) : List ((Int × Int × Int × Unit) × Int × Int × Int × Unit) := (keysOf s w).map fun k => bif k.1 == 1 then (k, (0, (a, (b, ())))) else (k, (0, (0, (b, ()))))
def ds2 (s w a b c : Int) : List ((Int × Int × Int × Unit) × Int × Int × Int × Unit) := (dsOf s w a b).map fun d => (d.1, (IntKind.i64.wrap (0 - IntKind.i64.wrap (Int.tmod c 4)), d.2.2))
def table (s w : Int) (f : Int → Int → Int) : List (List Int) := [0, 1, 2, 3].map fun i => [0, 1, 2, 3].map fun j => bif decide (i < s) && decide (j < w) then f i j else 0
def prio0 (s w : Int) : List (List Int) := table s w fun i j => j
def turnOf (w t : Int) (i j : Int) : Int := IntKind.u8.wrap (Int.tmod (IntKind.i64.wrap (IntKind.i64.wrap (j + i) + IntKind.i64.wrap t)) w)
def prioOf (s w t : Int) : List (List Int) := table s w (turnOf w t)
def need0 (s w : Int) : Int := match pledgeref06_Need (s, (w, ([], (prio0 s w, (8, (32, (2, (256, (65536, (256, (0, ()))))))))))) with | some n => n | none => 0

def three (s : Int) : Prop := s = 1 ∨ s = 2 ∨ s = 3

theorem plain_some (s w a b : Int) (hs : three s) (hw : three w) (ha : 0 ≤ a) :
    pledgeref06_Plain s w a b = some ((s, (w, ((), (prio0 s w, (8, (32, (2, (256, (65536, (256, (need0 s w, ()))))))))))), (dsOf s w a (if b < a then a else b), ())) := by
  have ha' : decide (a < 0) = false := by simp; omega
  unfold pledgeref06_Plain
  rw [ha']
  simp only [cond_false, Option.bind_some]
  by_cases hb : b < a
  · have : decide (b < a) = true := by simpa using hb
    rw [this, if_pos hb]
    simp only [cond_true, Option.bind_some]
    rcases hs with e | e | e <;> subst e <;> rcases hw with e | e | e <;> subst e <;> (show _ = _; kernel_rfl)
  · have : decide (b < a) = false := by simpa using hb
    rw [this, if_neg hb]
    simp only [cond_false, Option.bind_some]
    rcases hs with e | e | e <;> subst e <;> rcases hw with e | e | e <;> subst e <;> (show _ = _; kernel_rfl)

theorem between_some (a b c : Int) : ∃ r, pledgeref06_between a b c = some r := by
  unfold pledgeref06_between
  cases decide (a < b) <;> cases decide (a > c) <;> exact ⟨_, rfl⟩
theorem blocks_some (a b : Int) : ∃ r, pledgeref06_blocks a b = some r := by
  unfold pledgeref06_blocks
  by_cases h : b < 1
  · rw [show decide (b < 1) = true by simpa using h]; exact ⟨_, rfl⟩
  · rw [show decide (b < 1) = false by simpa using h, show (b != 0) = true by simp; omega]
    simp only [cond_false, chk, cond_true]
    cases decide (Int.tmod a b > 0) <;> exact ⟨_, rfl⟩
theorem all_some (s w : Int) (hs : three s) (hw : three w) : ∃ r, pledgeref04_All s w = some r := by
  have : pledgeref04_All s w = some (keysOf s w) := by
    rcases hs with e | e | e <;> subst e <;> rcases hw with e | e | e <;> subst e <;> (show _ = _; kernel_rfl)
  exact ⟨_, this⟩
theorem need_some (s w : Int) (hs : three s) (hw : three w) (r : List ((Int × Int × Int × Unit) × Int × Int × Int × Unit) × List (List Int) × Int × Int × Int × Int × Int × Int × Int × Unit) : ∃ n, pledgeref06_Need (s, (w, r)) = some n := by
  obtain ⟨l, hl⟩ := all_some s w hs hw
  have heads : ∃ n, pledgeref06_Heads (s, (w, r)) = some n := by
    unfold pledgeref06_Heads
    cases decide (r.2.2.2.2.2.2.2.1 < 16) with
    | true => exact ⟨_, rfl⟩
    | false =>
      obtain ⟨b, hb⟩ := blocks_some (l.length : Int) (IntKind.i64.wrap (Int.tdiv r.2.2.2.2.2.2.2.1 16))
      exact ⟨b, by simp only [cond_false, hl, Option.bind_some, hb]⟩
  obtain ⟨h, hh⟩ := heads
  obtain ⟨b1, hb1⟩ := between_some r.2.2.1 0 8
  obtain ⟨b2, hb2⟩ := between_some r.2.2.2.1 0 32
  have most : ∃ n, pledgeref06_Most r.2.2.1 r.2.2.2.1 = some n := by
    unfold pledgeref06_Most
    rw [hb1, Option.bind_some, hb2, Option.bind_some]; exact ⟨_, rfl⟩
  obtain ⟨mo, hmo⟩ := most
  obtain ⟨b3, hb3⟩ := blocks_some mo r.2.2.2.2.2.2.2.1
  unfold pledgeref06_Need pledgeref06_Area
  simp only [hh, hmo, hb3, Option.bind_some]
  exact ⟨_, rfl⟩

abbrev Sm := Int × Int × Int × Int × Int × Int × Int × Int × Int × Int × Int × Int × Unit
abbrev Cf := Int × Int × Unit × List (List Int) × Int × Int × Int × Int × Int × Int × Int × Unit
def cf0 : Cf := (0, (0, ((), (List.replicate 4 (List.replicate 4 0), (0, (0, (0, (0, (0, (0, (0, ())))))))))))
def cf1 (s w n : Int) (p : List (List Int)) : Cf := (s, (w, ((), (p, (8, (32, (2, (256, (65536, (256, (n, ())))))))))))

theorem config_l1 (s w a b n : Int) (x : Sm) (hs : three s) (hw : three w) :
    iterL pledgelaw06_Config.l1 loopN (((), ((), ((), 0))), (x, (cf0, (cf1 s w n (prio0 s w), (dsOf s w a b, ()))))) = some (((), ((), ())), (x, (cf0, (cf1 s w n (prio0 s w), (ds2 s w a b x.2.2.2.2.1, ()))))) := by
  rcases hs with e | e | e <;> subst e <;> rcases hw with e | e | e <;> subst e <;> (show _ = _; kernel_rfl)
theorem config_l2 (s w n : Int) (d : List ((Int × Int × Int × Unit) × Int × Int × Int × Unit)) (x : Sm) (hs : three s) (hw : three w) :
    iterL pledgelaw06_Config.l2 loopN (((), ((), ((), 0))), (x, (cf0, (cf1 s w n (prio0 s w), (d, ()))))) = some (((), ((), ())), (x, (cf0, (cf1 s w n (prioOf s w x.2.2.2.2.2.1), (d, ()))))) := by
  rcases hs with e | e | e <;> subst e <;> rcases hw with e | e | e <;> subst e <;> (show _ = _; kernel_rfl)

theorem third {n : Int} (h1 : 0 ≤ n) (h2 : n < 256) : IntKind.i64.wrap (1 + IntKind.i64.wrap (Int.tmod n 3)) = 1 + n % 3 ∧ three (1 + n % 3) := by
  have e : IntKind.i64.wrap (n % 3) = n % 3 := wrap_i64 (by omega) (by omega)
  rw [Int.tmod_eq_emod_of_nonneg h1, e, wrap_i64 (by omega) (by omega)]
  exact ⟨rfl, by unfold three; omega⟩

/-- A small configuration: its articles, its warehouses, who comes first. -/
theorem config_some (x : Sm) (hx : WfE kSmall x) : ∃ a b r n, 0 ≤ a ∧ three (1 + x.1 % 3) ∧ three (1 + x.2.1 % 3) ∧
    pledgelaw06_Config x = some (1 + x.1 % 3, (1 + x.2.1 % 3, (ds2 (1 + x.1 % 3) (1 + x.2.1 % 3) a b x.2.2.2.2.1, (prioOf (1 + x.1 % 3) (1 + x.2.1 % 3) x.2.2.2.2.2.1, (r : Int × Int × Int × Int × Int × Int × Int × Unit))))) ∧ r.2.2.2.2.2.2.1 = n := by
  obtain ⟨h1, h2, h3, h4, _⟩ := hx
  have w1 := wf_u8 h1
  have w2 := wf_u8 h2
  have w3 := wf_u8 h3
  have w4 := wf_u16 h4
  obtain ⟨e1, t1⟩ := third w1.1 w1.2
  obtain ⟨e2, t2⟩ := third w2.1 w2.2
  unfold pledgelaw06_Config
  rw [e1, e2, plain_some _ _ _ _ t1 t2 (by rw [wrap_i64 (by omega) (by omega)]; omega)]
  simp only [Option.bind_some]
  have k1 := config_l1 (1 + x.1 % 3) (1 + x.2.1 % 3) (IntKind.i64.wrap x.2.2.1) (if IntKind.i64.wrap x.2.2.2.1 < IntKind.i64.wrap x.2.2.1 then IntKind.i64.wrap x.2.2.1 else IntKind.i64.wrap x.2.2.2.1) (need0 (1 + x.1 % 3) (1 + x.2.1 % 3)) x t1 t2
  unfold cf0 cf1 at k1
  rw [k1]
  simp only [Option.bind_some]
  have k2 := config_l2 (1 + x.1 % 3) (1 + x.2.1 % 3) (need0 (1 + x.1 % 3) (1 + x.2.1 % 3)) (ds2 (1 + x.1 % 3) (1 + x.2.1 % 3) (IntKind.i64.wrap x.2.2.1) (if IntKind.i64.wrap x.2.2.2.1 < IntKind.i64.wrap x.2.2.1 then IntKind.i64.wrap x.2.2.1 else IntKind.i64.wrap x.2.2.2.1) x.2.2.2.2.1) x t1 t2
  unfold cf0 cf1 at k2
  rw [k2]
  simp only [Option.bind_some]
  obtain ⟨n, hn⟩ := need_some (1 + x.1 % 3) (1 + x.2.1 % 3) t1 t2 _
  rw [hn]
  exact ⟨_, _, _, n, by rw [wrap_i64 (by omega) (by omega)]; exact w3.1, t1, t2, rfl, rfl⟩
end Go.Proofs.Pure
