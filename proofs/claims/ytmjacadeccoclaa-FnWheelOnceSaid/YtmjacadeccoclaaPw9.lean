/- Plain facts on the mirrors of the functions are proved here. -/
import Derived.Test.YtmjacadeccoclaaPw8
set_option linter.all false
namespace Go.Tw
open Go Go.RowKit

theorem nat_mm {n : Nat} (h : n ≤ 1048576) : (n : Int) ≤ MM := by have : MM = 1048576 := rfl; omega
theorem bd_timers (l : List D_Timer) (h : l.length ≤ 1048576) : Bd (.sl T_Timer) l := ⟨nat_mm h, fun e _ => ⟨trivial, trivial, trivial⟩⟩
theorem bd_wheel (x : D_Wheel) (h : fitW x) : Bd T_Wheel x := ⟨trivial, ⟨nat_mm h.1, fun s hs => ⟨bd_timers _ (h.2 s hs), trivial⟩⟩, trivial⟩
theorem bd_ints (l : List Int) (h : l.length ≤ 1048576) : Bd (.sl (.int .i64)) l := ⟨nat_mm h, fun _ _ => trivial⟩
theorem fit_bd {x : D_Wheel} (b : Bd T_Wheel x) : fitW x := ⟨mm_nat b.2.1.1, fun s hs => mm_nat (b.2.1.2 s hs).1.1⟩
theorem sum_hh {x : D_Wheel} (h : fitW x) : sumW x.2.1 ≤ 1099511627776 := by
  have h1 := sumW_bd _ h.2
  have h2 := Nat.mul_le_mul_right 1048576 h.1
  omega
theorem runR_fit (w : D_Wheel) (n : Int) : fitW (runR w n).1 ∧ (runR w n).2.1.length ≤ 64000 := by
  unfold runR
  cases h : runB w n with
  | false => exact ⟨⟨by simp [noneW], by simp [noneW]⟩, by simp [noneW]⟩
  | true =>
    unfold runB at h
    simp only [Bool.and_eq_true, decide_eq_true_eq] at h
    have hP := (wheelI_iff w).1 h.1
    have hg := gone_len hP n.toNat
    exact ⟨after_fit hP _, by simp only [cond_true]; omega⟩
theorem tickR_fit (w : D_Wheel) : fitW (tickR w).1 ∧ (tickR w).2.1.length ≤ 64 := by
  unfold tickR
  cases h : tickB w with
  | false => exact ⟨⟨by simp [noneT], by simp [noneT]⟩, by simp [noneT]⟩
  | true =>
    unfold tickB at h
    simp only [Bool.and_eq_true] at h
    have hP := (wheelI_iff w).1 h.1
    have hg := flat_len hP
    have hl := List.length_filter_le (atB (w.1 + 1)) (flatW w)
    exact ⟨after_fit hP _, by simp only [cond_true, tickIds, List.length_map]; omega⟩

theorem law_FnExactWheelRun (x : D_Wheel) (n : Int) (hw : WF T_Wheel x) (hn : WF (.int .i64) n) : ∃ k y, laws_FnExactWheelRun k x n = some ((true, ()), y) := by
  have hk : MM < (1048577 : Nat) := by decide
  refine ⟨1048577, (), ?_⟩
  revert hk
  generalize (1048577 : Nat) = k
  intro hk
  have hM : MM = 1048576 := rfl
  have hH : HH = 1125899906842624 := rfl
  unfold laws_FnExactWheelRun
  obtain ⟨n1, a1, _, a3, a4⟩ := laws_szWheel_bd k hk x MM hw (by decide) (by decide)
  rw [show laws_szWheel k x 1048576 = _ from a1, Option.bind_some]
  by_cases hn1 : n1 < 0
  · rw [bif_t (by simpa using hn1)]
  rw [bif_f (by simpa using hn1)]
  have b1 := a4 (by omega)
  have hx := fit_bd b1
  obtain ⟨r1, r2⟩ := runR_fit x n
  have c1 := specWheelRun_eq k hk x hx n
  have c2 := implWheelRun_eq k hk x hx n
  obtain ⟨r, hr⟩ : ∃ r, r = runR x n := ⟨_, rfl⟩
  rw [← hr] at r1 r2 c1 c2
  have e1 := laws_eqWheel_ok k hk r.1 (bd_wheel _ r1)
  have e2 := laws_eqTimerS_ok k hk r.2.1 (bd_timers _ (by omega))
  have e3 := laws_eqWheel_ok k hk x b1
  have s1 := sum_hh hx
  have s2 := sum_hh r1
  have m1 := markSpoke_eq k hk x.2.1 hx.1 hx.2 1 (by omega) (by omega)
  have m2 := markSpoke_eq k hk r.1.2.1 r1.1 r1.2 1 (by omega) (by omega)
  have m3 := markTimer_eq k hk r.2.1 (by omega) (1 + ((2 * sumW r.1.2.1 : Nat) : Int)) (by omega) (by omega)
  have h1 := heldWheel_eq k hk r.1.1 r.1.2.1 r1.1 r1.2 1 (by omega) (by omega)
  have h2 := heldTimer_eq k hk r.2.1.length (by omega) (1 + ((2 * sumW r.1.2.1 : Nat) : Int)) (by omega) (by omega)
  have p1 : decide (1 + ((2 * sumW x.2.1 : Nat) : Int) < 0) = false := by simp only [decide_eq_false_iff_not]; omega
  have p2 : decide (1 + ((2 * sumW r.1.2.1 : Nat) : Int) < 0) = false := by simp only [decide_eq_false_iff_not]; omega
  have p3 : decide (1 + ((2 * sumW r.1.2.1 : Nat) : Int) + ((2 * r.2.1.length : Nat) : Int) < 0) = false := by simp only [decide_eq_false_iff_not]; omega
  simp only [laws_toWheel_ok k hk x b1, c1, c2, e1, e2, e3, Option.bind_some, m1, m2, m3, h1, h2, p1, p2, p3, Bool.not_true, Bool.not_false, cond_true, cond_false, decide_true]

theorem law_FnExactWheelTick (x : D_Wheel) (hw : WF T_Wheel x) : ∃ k y, laws_FnExactWheelTick k x = some ((true, ()), y) := by
  have hk : MM < (1048577 : Nat) := by decide
  refine ⟨1048577, (), ?_⟩
  revert hk
  generalize (1048577 : Nat) = k
  intro hk
  have hM : MM = 1048576 := rfl
  have hH : HH = 1125899906842624 := rfl
  unfold laws_FnExactWheelTick
  obtain ⟨n1, a1, _, a3, a4⟩ := laws_szWheel_bd k hk x MM hw (by decide) (by decide)
  rw [show laws_szWheel k x 1048576 = _ from a1, Option.bind_some]
  by_cases hn1 : n1 < 0
  · rw [bif_t (by simpa using hn1)]
  rw [bif_f (by simpa using hn1)]
  have b1 := a4 (by omega)
  have hx := fit_bd b1
  obtain ⟨r1, r2⟩ := tickR_fit x
  have c1 := specTick_eq k hk x hx
  have c2 := implTick_eq k hk x hx
  obtain ⟨r, hr⟩ : ∃ r, r = tickR x := ⟨_, rfl⟩
  rw [← hr] at r1 r2 c1 c2
  have e1 := laws_eqWheel_ok k hk r.1 (bd_wheel _ r1)
  have e2 := laws_eqIntS_ok k hk r.2.1 (bd_ints _ (by omega))
  have e3 := laws_eqWheel_ok k hk x b1
  have s1 := sum_hh hx
  have s2 := sum_hh r1
  have m1 := markSpoke_eq k hk x.2.1 hx.1 hx.2 1 (by omega) (by omega)
  have m2 := markSpoke_eq k hk r.1.2.1 r1.1 r1.2 1 (by omega) (by omega)
  have m3 := markInt_eq k hk r.2.1 (by omega) (1 + ((2 * sumW r.1.2.1 : Nat) : Int)) (by omega) (by omega)
  have h1 := heldWheel_eq k hk r.1.1 r.1.2.1 r1.1 r1.2 1 (by omega) (by omega)
  have h2 := heldInt_eq k hk r.2.1.length (by omega) (1 + ((2 * sumW r.1.2.1 : Nat) : Int)) (by omega) (by omega)
  have p1 : decide (1 + ((2 * sumW x.2.1 : Nat) : Int) < 0) = false := by simp only [decide_eq_false_iff_not]; omega
  have p2 : decide (1 + ((2 * sumW r.1.2.1 : Nat) : Int) < 0) = false := by simp only [decide_eq_false_iff_not]; omega
  have p3 : decide (1 + ((2 * sumW r.1.2.1 : Nat) : Int) + ((1 * r.2.1.length : Nat) : Int) < 0) = false := by simp only [decide_eq_false_iff_not]; omega
  simp only [laws_toWheel_ok k hk x b1, c1, c2, e1, e2, e3, Option.bind_some, m1, m2, m3, h1, h2, p1, p2, p3, Bool.not_true, Bool.not_false, cond_true, cond_false, decide_true]
end Go.Tw
