/- Plain facts on the mirrors of the functions are proved here. -/
import Derived.Test.YtmnfadocihfiaaaGreatPn3
set_option linter.all false
set_option maxRecDepth 100000
set_option maxHeartbeats 4000000
namespace Go.Tw
open Go Sem
def l0B (l : D_Limits) : Bool := decide (l.1 = (0 : Int)) && (decide (l.2.1 = (0 : Int)) && (decide (l.2.2.1 = (0 : Int)) && (decide (l.2.2.2.1 = (0 : Int)) && ((l.2.2.2.2.1 == false) && true))))
def r0B (r : D_Rule) : Bool := decide (r.1 = (0 : Int)) && (anyP r.2.1 && (anyP r.2.2.1 && (decide (r.2.2.2.1 = (0 : Int)) && (decide (r.2.2.2.2.1 = (0 : Int)) && (decide (r.2.2.2.2.2.1 = (0 : Int)) && (decide (r.2.2.2.2.2.2.1 = (0 : Int)) && (decide (r.2.2.2.2.2.2.2.1 = (0 : Int)) && (decide (r.2.2.2.2.2.2.2.2.1 = (0 : Int)) && (decide (r.2.2.2.2.2.2.2.2.2.1 = (0 : Int)) && (decide (r.2.2.2.2.2.2.2.2.2.2.1 = (0 : Int)) && true))))))))))
theorem l0_def (l : D_Limits) : ((decide (l.1 = (0 : Int))) && ((decide (l.2.1 = (0 : Int))) && ((decide (l.2.2.1 = (0 : Int))) && ((decide (l.2.2.2.1 = (0 : Int))) && ((l.2.2.2.2.1 == false) && true))))) = l0B l := rfl
theorem r0_def (r : D_Rule) : ((decide (r.1 = (0 : Int))) && ((((decide (r.2.1.1.1 = (0 : Int))) && ((decide (r.2.1.1.2.1 = (0 : Int))) && ((decide (r.2.1.1.2.2.1 = (0 : Int))) && ((decide (r.2.1.1.2.2.2.1 = (0 : Int))) && ((decide (r.2.1.1.2.2.2.2.1 = (0 : Int))) && true))))) && ((decide (r.2.1.2.1 = (0 : Int))) && true)) && ((((decide (r.2.2.1.1.1 = (0 : Int))) && ((decide (r.2.2.1.1.2.1 = (0 : Int))) && ((decide (r.2.2.1.1.2.2.1 = (0 : Int))) && ((decide (r.2.2.1.1.2.2.2.1 = (0 : Int))) && ((decide (r.2.2.1.1.2.2.2.2.1 = (0 : Int))) && true))))) && ((decide (r.2.2.1.2.1 = (0 : Int))) && true)) && ((decide (r.2.2.2.1 = (0 : Int))) && ((decide (r.2.2.2.2.1 = (0 : Int))) && ((decide (r.2.2.2.2.2.1 = (0 : Int))) && ((decide (r.2.2.2.2.2.2.1 = (0 : Int))) && ((decide (r.2.2.2.2.2.2.2.1 = (0 : Int))) && ((decide (r.2.2.2.2.2.2.2.2.1 = (0 : Int))) && ((decide (r.2.2.2.2.2.2.2.2.2.1 = (0 : Int))) && ((decide (r.2.2.2.2.2.2.2.2.2.2.1 = (0 : Int))) && true))))))))))) = r0B r := rfl
theorem noneS (c : D_Cmd) (a b r l e : Bool) : spec_l22None c a b r l e = some (((a || decide (c.2.1 = 0)) && ((b || decide (c.2.2.1 = 0)) && ((e || decide (((c.2.2.2.2.2.1.length : Nat) : Int) = 0)) && ((r || r0B c.2.2.2.1) && (l || l0B c.2.2.2.2.1)))), ()), ()) := by
  unfold spec_l22None
  simp only [r0_def, l0_def]
  generalize r0B c.2.2.2.1 = b1
  generalize l0B c.2.2.2.2.1 = b2
  generalize decide (c.2.1 = 0) = b3
  generalize decide (c.2.2.1 = 0) = b4
  generalize decide (((c.2.2.2.2.2.1.length : Nat) : Int) = 0) = b5
  cases a <;> cases b <;> cases e <;> cases r <;> cases l <;> simp only [Bool.not_true, Bool.not_false, cond_true, cond_false, Bool.true_or, Bool.false_or, Bool.true_and, Bool.and_true, Bool.not_not] <;> cases b3 <;> cases b4 <;> cases b5 <;> cases b1 <;> cases b2 <;> rfl
def plainB (c : D_Cmd) : Bool := r0B c.2.2.2.1 && (l0B c.2.2.2.2.1 && decide (((c.2.2.2.2.2.1.length : Nat) : Int) = 0))
def zerB (c : D_Cmd) : Bool := decide (c.2.1 = 0) && (decide (c.2.2.1 = 0) && decide (((c.2.2.2.2.2.1.length : Nat) : Int) = 0))
def cmdB (c : D_Cmd) : Bool :=
  bif decide (c.1 = 1) then plainB c && (inB c.2.1 1 8 && inB c.2.2.1 1 10)
  else bif decide (c.1 = 2) then plainB c && (inB c.2.1 1 8 && decide (c.2.2.1 = 0))
  else bif decide (c.1 = 3) then zerB c && (l0B c.2.2.2.2.1 && ruleB c.2.2.2.1)
  else bif decide (c.1 = 4) then plainB c && (inB c.2.1 1 9999 && decide (c.2.2.1 = 0))
  else bif decide (c.1 = 5) then zerB c && (r0B c.2.2.2.1 && limB c.2.2.2.2.1)
  else bif decide (c.1 = 6) then plainB c && (inB c.2.1 0 1 && decide (c.2.2.1 = 0))
  else bif decide (c.1 = 7) then (decide (c.2.2.1 = 0) && (r0B c.2.2.2.1 && l0B c.2.2.2.2.1)) && (inB c.2.1 1 8 && chainB c.2.2.2.2.2.1)
  else bif decide (c.1 = 8) then plainB c && (inB c.2.1 1 1000 && decide (c.2.2.1 = 0))
  else false
theorem kinds8 (c : Int) : c = 1 ∨ c = 2 ∨ c = 3 ∨ c = 4 ∨ c = 5 ∨ c = 6 ∨ c = 7 ∨ c = 8 ∨ (c ≠ 1 ∧ c ≠ 2 ∧ c ≠ 3 ∧ c ≠ 4 ∧ c ≠ 5 ∧ c ≠ 6 ∧ c ≠ 7 ∧ c ≠ 8) := by omega
theorem cmdS (k : Nat) (hk : MM < k) (c : D_Cmd) : spec_CmdOk k c = some ((cmdB c, ()), ()) := by
  obtain ⟨o, n, w, r, l, ch, u⟩ := c
  unfold spec_CmdOk cmdB plainB zerB
  simp only [noneS, ruleS k hk, limS, inS, chainS k hk, Option.bind_some]
  generalize ruleB r = b1
  generalize limB l = b2
  generalize chainB ch = b3
  generalize r0B r = b4
  generalize l0B l = b5
  generalize decide (((ch.length : Nat) : Int) = 0) = b6
  generalize inB n 0 1 = b7
  generalize decide (w = 0) = a1
  generalize decide (n = 0) = a2
  rw [show inB n 1 8 = (decide (1 ≤ n) && decide (n ≤ 8)) from rfl, show inB w 1 10 = (decide (1 ≤ w) && decide (w ≤ 10)) from rfl, show inB n 1 9999 = (decide (1 ≤ n) && decide (n ≤ 9999)) from rfl, show inB n 1 1000 = (decide (1 ≤ n) && decide (n ≤ 1000)) from rfl]
  generalize decide (1 ≤ n) = c1
  generalize decide (n ≤ 8) = c2
  generalize decide (1 ≤ w) = c3
  generalize decide (w ≤ 10) = c4
  generalize decide (n ≤ 9999) = c5
  generalize decide (n ≤ 1000) = c6
  rcases kinds8 o with rfl | rfl | rfl | rfl | rfl | rfl | rfl | rfl | ⟨h1, h2, h3, h4, h5, h6, h7, h8⟩
  · cases b4 <;> cases b5 <;> cases b6 <;> cases c1 <;> cases c2 <;> cases c3 <;> cases c4 <;> rfl
  · cases b4 <;> cases b5 <;> cases b6 <;> cases c1 <;> cases c2 <;> cases a1 <;> rfl
  · cases a1 <;> cases a2 <;> cases b6 <;> cases b5 <;> cases b1 <;> rfl
  · cases b4 <;> cases b5 <;> cases b6 <;> cases c1 <;> cases c5 <;> cases a1 <;> rfl
  · cases a1 <;> cases a2 <;> cases b6 <;> cases b4 <;> cases b2 <;> rfl
  · cases b4 <;> cases b5 <;> cases b6 <;> cases b7 <;> cases a1 <;> rfl
  · cases a1 <;> cases b4 <;> cases b5 <;> cases c1 <;> cases c2 <;> cases b3 <;> rfl
  · cases b4 <;> cases b5 <;> cases b6 <;> cases c1 <;> cases c6 <;> cases a1 <;> rfl
  · simp only [h1, h2, h3, h4, h5, h6, h7, h8, decide_false, cond_false]
theorem zero3 (k : Nat) (hk : MM < k) (a b c : Int) : impl_areZero k [a, b, c] = some ((decide (a = 0) && (decide (b = 0) && decide (c = 0)), ()), ()) := by
  have hM : MM = 1048576 := rfl
  unfold impl_areZero slices_ContainsFunc_int slices_IndexFunc_int
  have run := search_run (step := slices_IndexFunc_int_s2) (st := fun i => ((), [a, b, c], (), (((([a, b, c] : List Int).length : Nat)) : Int), (i : Int), ())) (n := 3) (hit := fun i => bif !decide (([a, b, c] : List Int).getD i 0 = 0) then some (Sum.inl ((), (i : Int), ())) else none) (fin := Sum.inr ((), ())) (fun i hi rec => by
      unfold slices_IndexFunc_int_s2 impl_areZero_1
      rw [bif_t (by simp; omega), bif_t (by simp; omega), bif_t (by simp; omega)]
      simp only [Int.toNat_natCast, Option.bind_some]
      rw [w64 (by omega)]
      cases decide (([a, b, c] : List Int).getD i 0 = 0) <;> rfl) (fun rec => by
      unfold slices_IndexFunc_int_s2
      rw [bif_f (by simp)]) 3 0 k (by omega) (by omega)
  rw [show iter (slices_IndexFunc_int_s2) k ((), [a, b, c], (), (((([a, b, c] : List Int).length : Nat)) : Int), (0 : Int), ()) = _ from run]
  by_cases ha : a = 0 <;> by_cases hb : b = 0 <;> by_cases hc : c = 0 <;> simp [sch, ha, hb, hc]
theorem wtI (x : Int) : impl_isWeight x = some ((inB x 1 10, ()), ()) := by
  unfold impl_isWeight; rw [inI]; rfl
theorem cmdI (k : Nat) (hk : MM < k) (c : D_Cmd) : impl_CmdOk k c = some ((cmdB c, ()), ()) := by
  obtain ⟨o, n, w, r, l, ch, u⟩ := c
  unfold impl_CmdOk cmdB plainB zerB
  simp only [r0_def, l0_def, zero3 k hk, ruleI k hk, limI, inI, wtI, chainI k hk, Option.bind_some]
  generalize ruleB r = b1
  generalize limB l = b2
  generalize chainB ch = b3
  generalize r0B r = b4
  generalize l0B l = b5
  generalize decide (((ch.length : Nat) : Int) = 0) = b6
  generalize inB n 0 1 = b7
  generalize inB n 1 8 = c1
  generalize inB w 1 10 = c3
  generalize inB n 1 9999 = c5
  generalize inB n 1 1000 = c6
  generalize decide (w = 0) = a1
  generalize decide (n = 0) = a2
  rcases kinds8 o with rfl | rfl | rfl | rfl | rfl | rfl | rfl | rfl | ⟨h1, h2, h3, h4, h5, h6, h7, h8⟩
  · cases b4 <;> cases b5 <;> cases b6 <;> cases c1 <;> cases c3 <;> rfl
  · cases b4 <;> cases b5 <;> cases b6 <;> cases c1 <;> cases a1 <;> rfl
  · cases a1 <;> cases a2 <;> cases b6 <;> cases b4 <;> cases b5 <;> cases b1 <;> rfl
  · cases b4 <;> cases b5 <;> cases b6 <;> cases c5 <;> cases a1 <;> rfl
  · cases a1 <;> cases a2 <;> cases b6 <;> cases b4 <;> cases b5 <;> cases b2 <;> rfl
  · cases b4 <;> cases b5 <;> cases b6 <;> cases b7 <;> cases a1 <;> rfl
  · cases a1 <;> cases b4 <;> cases b5 <;> cases c1 <;> cases b3 <;> rfl
  · cases b4 <;> cases b5 <;> cases b6 <;> cases c6 <;> cases a1 <;> rfl
  · simp only [h1, h2, h3, h4, h5, h6, h7, h8, decide_false, cond_false]
    cases b4 <;> cases b5 <;> rfl
end Go.Tw
