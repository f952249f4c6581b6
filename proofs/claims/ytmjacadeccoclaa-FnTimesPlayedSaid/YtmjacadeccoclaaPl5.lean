/- Plain facts on the mirrors of the functions are proved here. -/
import Derived.Test.YtmjacadeccoclaaPl4
import Derived.Test.YtmjacadeccoclaaPk1
import Derived.Test.YtmjacadeccoclaaPf2
set_option linter.all false
namespace Go.Tw
open Go Go.RowKit

theorem lineP_small {x : D_Line} (h : LineP x) : x.2.1.length + x.2.2.1.length + x.2.2.2.1.length ≤ 16 := by
  have h1 := h.1
  unfold capB at h1
  simp only [Bool.and_eq_true, decide_eq_true_eq] at h1
  omega
theorem tickA_len (l : List D_Job) : (tickA l).1.length ≤ l.length ∧ (tickA l).2.length ≤ 1 := by
  cases l with
  | nil => simp [tickA]
  | cons e l => by_cases h : IntKind.wrap .i64 (e.2.1.1 - 1) = 0 <;> simp [tickA, h]
theorem tickB_len (l : List D_Job) : (tickB l).1.length ≤ l.length ∧ (tickB l).2.length ≤ 1 := by
  cases l with
  | nil => simp [tickB]
  | cons e l => by_cases h : IntKind.wrap .i64 (e.2.1.2.1 - 1) = 0 <;> simp [tickB, h]
theorem tickC_len (l : List D_Job) : (tickC l).1.length ≤ l.length := by
  cases l with
  | nil => simp [tickC]
  | cons e l => by_cases h : IntKind.wrap .i64 (e.2.1.2.2.1 - 1) = 0 <;> simp [tickC, h]
theorem nat_mm {n : Nat} (h : n ≤ 1048576) : (n : Int) ≤ MM := by have : MM = 1048576 := rfl; omega
theorem bd_jobs (l : List D_Job) (h : l.length ≤ 1048576) : Bd (.sl T_Job) l := ⟨nat_mm h, fun e _ => ⟨trivial, ⟨trivial, trivial, trivial, trivial⟩, trivial⟩⟩
theorem bd_line (x : D_Line) (h : fits x) : Bd T_Line x := ⟨trivial, bd_jobs _ h.1, bd_jobs _ h.2.1, bd_jobs _ h.2.2, trivial⟩
/-- marks in a line's lists, and whether they are still there -/
theorem marks_line (k : Nat) (hk : MM < k) (y : D_Line) (hy : fits y) :
    ∃ m1 m2 m3 : Int, ∃ l1 l2 l3 : List D_Job, laws_markJobS k y.2.1 1 = some ((m1, ()), (l1, ())) ∧ laws_markJobS k y.2.2.1 m1 = some ((m2, ()), (l2, ())) ∧ laws_markJobS k y.2.2.2.1 m2 = some ((m3, ()), (l3, ())) ∧
      0 ≤ m3 ∧ laws_heldLine k (y.1, l1, l2, l3, ()) 1 = some ((m3, ()), ()) := by
  obtain ⟨h1, h2, h3⟩ := hy
  have a1 := markJob_eq k hk y.2.1 (by omega) 1 (by omega) (by omega)
  have a2 := markJob_eq k hk y.2.2.1 (by omega) (1 + ((4 * y.2.1.length : Nat) : Int)) (by omega) (by omega)
  have a3 := markJob_eq k hk y.2.2.2.1 (by omega) (1 + ((4 * y.2.1.length : Nat) : Int) + ((4 * y.2.2.1.length : Nat) : Int)) (by omega) (by omega)
  have b1 := heldJob_eq k hk y.2.1.length (by omega) 1 (by omega) (by omega)
  have b2 := heldJob_eq k hk y.2.2.1.length (by omega) (1 + ((4 * y.2.1.length : Nat) : Int)) (by omega) (by omega)
  have b3 := heldJob_eq k hk y.2.2.2.1.length (by omega) (1 + ((4 * y.2.1.length : Nat) : Int) + ((4 * y.2.2.1.length : Nat) : Int)) (by omega) (by omega)
  refine ⟨_, _, _, _, _, _, a1, a2, a3, by omega, ?_⟩
  unfold laws_heldLine
  simp only [b1, Option.bind_some]
  rw [bif_f (by simp; omega), b2, Option.bind_some, bif_f (by simp; omega), b3, Option.bind_some, bif_f (by simp; omega)]
theorem specTickL_eq (k : Nat) (hk : MM < k) (x : D_Line) (h : fits x) : spec_LineTick k x = bif lineI x then some (tick x, ()) else some ((z_Line, (-1 : Int), ()), ()) := by
  unfold spec_LineTick
  rw [specOk_eq k hk x h, ← line_eq, Option.bind_some]
  cases lineI x with
  | false => rfl
  | true => simp only [Bool.not_true, cond_false, cond_true, specTick_eq x h, Option.bind_some]
theorem law_FnExactLineTick (x : D_Line) (hw : WF T_Line x) : ∃ k y, laws_FnExactLineTick k x = some ((true, ()), y) := by
  have hk : MM < (1048577 : Nat) := by decide
  refine ⟨1048577, (), ?_⟩
  revert hk
  generalize (1048577 : Nat) = k
  intro hk
  have hM : MM = 1048576 := rfl
  unfold laws_FnExactLineTick
  obtain ⟨n1, a1, _, a3, a4⟩ := laws_szLine_bd x MM hw (by decide) (by decide)
  rw [a1, Option.bind_some]
  by_cases hn1 : n1 < 0
  · rw [bif_t (by simpa using hn1)]
  rw [bif_f (by simpa using hn1)]
  have b1 := a4 (by omega)
  have hx : fits x := ⟨mm_nat b1.2.1.1, mm_nat b1.2.2.1.1, mm_nat b1.2.2.2.1.1⟩
  obtain ⟨r, hr, hrl⟩ : ∃ r : D_Line × Int × Unit, (bif lineI x then some (tick x, ()) else some ((z_Line, (-1 : Int), ()), ())) = some (r, ()) ∧ (r.1.2.1.length ≤ 1000 ∧ r.1.2.2.1.length ≤ 1000 ∧ r.1.2.2.2.1.length ≤ 1000) := by
    cases h : lineI x with
    | false => exact ⟨_, rfl, by simp [z_Line]⟩
    | true =>
      have hp := lineP_small ((lineI_iff x).1 h)
      have t1 := tickA_len x.2.1
      have t2 := tickB_len x.2.2.1
      have t3 := tickC_len x.2.2.2.1
      refine ⟨_, rfl, ?_, ?_, ?_⟩ <;> simp only [tick, List.length_append] <;> omega
  have br : Bd T_Line r.1 := bd_line r.1 ⟨by omega, by omega, by omega⟩
  obtain ⟨m1, m2, m3, l1, l2, l3, c1, c2, c3, c4, c5⟩ := marks_line k hk r.1 ⟨by omega, by omega, by omega⟩
  obtain ⟨p1, p2, p3, q1, q2, q3, d1, d2, d3, d4, d5⟩ := marks_line k hk x hx
  simp only [laws_toLine_ok k hk x b1, specTickL_eq k hk x hx, implTick_eq k hk x hx, hr, laws_eqLine_ok k hk r.1 br, laws_eqLine_ok k hk x b1, Option.bind_some]
  have n3 : ¬ (m3 < 0) := by omega
  have n4 : ¬ (p3 < 0) := by omega
  simp only [d1, d2, d3, c1, c2, c3, c5, Option.bind_some]
  simp [n3, n4]
end Go.Tw
