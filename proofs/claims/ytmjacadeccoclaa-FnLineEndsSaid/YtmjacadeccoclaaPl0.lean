/- Plain facts on the mirrors of the functions are proved here. -/
import Derived.Test.YtmjacadeccoclaaMc
import Derived.Test.YtmjacadeccoclaaPf0
set_option linter.all false
namespace Go.Tw
open Go Go.RowKit

theorem leN (a b : Int) : decide (a < b) = !decide (b ≤ a) := by
  by_cases h : a < b <;> by_cases h2 : b ≤ a <;> simp [h, h2] <;> omega
def anyN (p : Nat → Bool) : Nat → Nat → Bool
  | 0, _ => false
  | m + 1, i => p i || anyN p m (i + 1)
theorem anyN_iff (p : Nat → Bool) : ∀ m i, anyN p m i = true ↔ ∃ j, i ≤ j ∧ j < i + m ∧ p j = true
  | 0, i => by simp [anyN]; omega
  | m + 1, i => by
    simp only [anyN, Bool.or_eq_true, anyN_iff p m (i + 1)]
    constructor
    · rintro (h | ⟨j, h1, h2, h3⟩)
      · exact ⟨i, by omega, by omega, h⟩
      · exact ⟨j, by omega, by omega, h3⟩
    · rintro ⟨j, h1, h2, h3⟩
      by_cases hj : j = i
      · exact .inl (hj ▸ h3)
      · exact .inr ⟨j, by omega, by omega, h3⟩
theorem sch_bool {O : Type} {p : Nat → Bool} {o fin : O} : ∀ m i, sch (fun j => bif p j then some o else none) fin m i = bif anyN p m i then o else fin
  | 0, i => rfl
  | m + 1, i => by
    simp only [sch, anyN]
    cases p i with
    | true => rfl
    | false => simpa using sch_bool m (i + 1)

theorem all_eq (x : D_Line) (h : x.2.1.length ≤ 1048576 ∧ x.2.2.1.length ≤ 1048576 ∧ x.2.2.2.1.length ≤ 1048576) :
    spec_l21All x = some (((x.2.2.2.1 ++ x.2.2.1) ++ x.2.1, ()), ()) := by
  obtain ⟨h1, h2, h3⟩ := h
  unfold spec_l21All
  rw [bif_t (by simp; omega), bif_t (by simp; omega), bif_t (by simp; omega)]
theorem sum_run (k : Nat) (hk : MM < k) (a b c : List D_Job) (h1 : a.length ≤ 1048576) (h2 : b.length ≤ 1048576) (h3 : c.length ≤ 1048576) :
    iter slices_Concat_impl_Job_impl_Job_s3 k ((), [a, b, c], (0 : Int), [a, b, c], (((3 : Nat)) : Int), (0 : Int), ()) = some ((), [a, b, c], (((a.length + b.length + c.length : Nat)) : Int), ()) := by
  have hM : MM = 1048576 := rfl
  obtain ⟨k', rfl⟩ : ∃ k', k = k' + 4 := ⟨k - 4, by omega⟩
  have hw1 : IntKind.wrap .i64 ((0 : Int) + (a.length : Int)) = ((a.length : Nat) : Int) := by rw [w64 (by omega)]; omega
  have hw2 : IntKind.wrap .i64 ((a.length : Int) + (b.length : Int)) = ((a.length + b.length : Nat) : Int) := by rw [w64 (by omega)]; omega
  have hw3 : IntKind.wrap .i64 (((a.length + b.length : Nat) : Int) + (c.length : Int)) = ((a.length + b.length + c.length : Nat) : Int) := by rw [w64 (by omega)]; omega
  have n1 : decide (((a.length : Nat) : Int) < 0) = false := by simp
  have n2 : decide (((a.length + b.length : Nat) : Int) < 0) = false := by simp; omega
  have n3 : decide (((a.length + b.length + c.length : Nat) : Int) < 0) = false := by simp; omega
  rw [show k' + 4 = ((k' + 1 + 1) + 1) + 1 from rfl]
  rw [iter_succ]
  show (bif decide (IntKind.wrap .i64 ((0 : Int) + (a.length : Int)) < 0) then none else iter slices_Concat_impl_Job_impl_Job_s3 (k' + 1 + 1 + 1) ((), [a, b, c], IntKind.wrap .i64 ((0 : Int) + (a.length : Int)), [a, b, c], (((3 : Nat)) : Int), (1 : Int), ())) = _
  rw [hw1, n1, cond_false, iter_succ]
  show (bif decide (IntKind.wrap .i64 ((a.length : Int) + (b.length : Int)) < 0) then none else iter slices_Concat_impl_Job_impl_Job_s3 (k' + 1 + 1) ((), [a, b, c], IntKind.wrap .i64 ((a.length : Int) + (b.length : Int)), [a, b, c], (((3 : Nat)) : Int), (2 : Int), ())) = _
  rw [hw2, n2, cond_false, iter_succ]
  show (bif decide (IntKind.wrap .i64 (((a.length + b.length : Nat) : Int) + (c.length : Int)) < 0) then none else iter slices_Concat_impl_Job_impl_Job_s3 (k' + 1) ((), [a, b, c], IntKind.wrap .i64 (((a.length + b.length : Nat) : Int) + (c.length : Int)), [a, b, c], (((3 : Nat)) : Int), (3 : Int), ())) = _
  rw [hw3, n3, cond_false, iter_succ]
  rfl
theorem cat_run (k : Nat) (hk : MM < k) (a b c : List D_Job) (h1 : a.length ≤ 1048576) (h2 : b.length ≤ 1048576) (h3 : c.length ≤ 1048576) :
    iter slices_Concat_impl_Job_impl_Job_s11 k ((), ([] : List D_Job), [a, b, c], (((3 : Nat)) : Int), (0 : Int), ()) = some ((), (a ++ b) ++ c, ()) := by
  have hM : MM = 1048576 := rfl
  obtain ⟨k', rfl⟩ : ∃ k', k = k' + 4 := ⟨k - 4, by omega⟩
  have n1 : decide ((0 + a.length) * 32 ≤ 1099511627776) = true := by simp; omega
  have n2 : decide ((a.length + b.length) * 32 ≤ 1099511627776) = true := by simp; omega
  have n3 : decide (((a ++ b).length + c.length) * 32 ≤ 1099511627776) = true := by simp; omega
  rw [show k' + 4 = ((k' + 1 + 1) + 1) + 1 from rfl]
  rw [iter_succ]
  show (bif decide ((0 + a.length) * 32 ≤ 1099511627776) then iter slices_Concat_impl_Job_impl_Job_s11 (k' + 1 + 1 + 1) ((), a, [a, b, c], (((3 : Nat)) : Int), (1 : Int), ()) else none) = _
  rw [n1, cond_true, iter_succ]
  show (bif decide ((a.length + b.length) * 32 ≤ 1099511627776) then iter slices_Concat_impl_Job_impl_Job_s11 (k' + 1 + 1) ((), a ++ b, [a, b, c], (((3 : Nat)) : Int), (2 : Int), ()) else none) = _
  rw [n2, cond_true, iter_succ]
  show (bif decide (((a ++ b).length + c.length) * 32 ≤ 1099511627776) then iter slices_Concat_impl_Job_impl_Job_s11 (k' + 1) ((), (a ++ b) ++ c, [a, b, c], (((3 : Nat)) : Int), (3 : Int), ()) else none) = _
  rw [n3, cond_true, iter_succ]
  rfl
theorem jobs_eq (k : Nat) (hk : MM < k) (x : D_Line) (h : x.2.1.length ≤ 1048576 ∧ x.2.2.1.length ≤ 1048576 ∧ x.2.2.2.1.length ≤ 1048576) :
    impl_Line_jobs k x = some (((x.2.1 ++ x.2.2.1) ++ x.2.2.2.1, ()), ()) := by
  obtain ⟨h1, h2, h3⟩ := h
  unfold impl_Line_jobs slices_Concat_impl_Job_impl_Job
  rw [show iter slices_Concat_impl_Job_impl_Job_s3 k ((), [x.2.1, x.2.2.1, x.2.2.2.1], (0 : Int), [x.2.1, x.2.2.1, x.2.2.2.1], (((List.length [x.2.1, x.2.2.1, x.2.2.2.1]) : Nat) : Int), (0 : Int), ()) = _ from sum_run k hk _ _ _ h1 h2 h3]
  simp only [Option.bind_some]
  have hw : IntKind.wrap .i64 (((x.2.1.length + x.2.2.1.length + x.2.2.2.1.length : Nat) : Int) - 0) = ((x.2.1.length + x.2.2.1.length + x.2.2.2.1.length : Nat) : Int) := by rw [w64 (by omega)]; omega
  rw [bif_f (by simp; omega), hw]
  have hc := cat_run k hk x.2.1 x.2.2.1 x.2.2.2.1 h1 h2 h3
  by_cases h0 : 0 < x.2.1.length + x.2.2.1.length + x.2.2.2.1.length
  · rw [bif_t (by simp; omega), bif_t (by simp; omega), bif_t (by simp; omega)]
    rw [show iter slices_Concat_impl_Job_impl_Job_s11 k ((), List.take (0 : Nat) _, [x.2.1, x.2.2.1, x.2.2.2.1], (((List.length [x.2.1, x.2.2.1, x.2.2.2.1]) : Nat) : Int), (0 : Int), ()) = _ from hc]
    rfl
  · rw [bif_f (by simp; omega)]
    rw [show iter slices_Concat_impl_Job_impl_Job_s11 k ((), ([] : List D_Job), [x.2.1, x.2.2.1, x.2.2.2.1], (((List.length [x.2.1, x.2.2.1, x.2.2.2.1]) : Nat) : Int), (0 : Int), ()) = _ from hc]
    rfl
end Go.Tw
