/- Plain facts on the mirrors of the functions are proved here. -/
import Derived.Test.YtaigepmndpefgaaPe1
set_option linter.all false
namespace Go.Tw
open Go Go.RowKit

/-- where the frame with so many before it stands -/
def posF : List D_Event → Int → Int → Option Int
  | [], _, _ => none
  | e :: l, i, d => if e.1 = 1 then (if d = 0 then some i else posF l (i + 1) (d - 1)) else posF l (i + 1) d
theorem wrap_zero {d : Int} (h : -9223372036855824385 ≤ d ∧ d ≤ 9223372036854775807) : IntKind.wrap .i64 d = 0 ↔ d = 0 := by rw [IntKind.wrap_i64]; omega
theorem wrap_pred (d : Int) : IntKind.wrap .i64 (IntKind.wrap .i64 d - 1) = IntKind.wrap .i64 (d - 1) := by simp only [IntKind.wrap_i64]; omega
def outF (o : Option Int) : (Unit × Int × Unit) ⊕ (Unit × Unit) := match o with | some i => Sum.inl ((), i, ()) | none => Sum.inr ((), ())

theorem implF_run (x : List D_Event) (hl : (x.length : Int) ≤ M0) : ∀ (n i k : Nat) (d : Int), i + n = x.length → n < k → -9223372036854775808 - (i : Int) ≤ d → d ≤ 9223372036854775807 →
    iter impl_frameAt_s2 k ((), IntKind.wrap .i64 d, x, (x.length : Int), (i : Int), ()) = some (outF (posF (x.drop i) i d))
  | 0, i, k + 1, d, hi, _, h0, hM => by
    have step : ∀ rec, impl_frameAt_s2 rec ((), IntKind.wrap .i64 d, x, (x.length : Int), (i : Int), ()) = some (Sum.inr ((), ())) := by
      intro rec; unfold impl_frameAt_s2
      rw [bif_f (by simp; omega)]
    rw [iter_succ, step, List.drop_of_length_le (by omega)]; rfl
  | n + 1, i, k + 1, d, hi, hk, h0, hM => by
    have hM' : M0 = 1048576 := rfl
    have hlt : i < x.length := by omega
    have step : ∀ rec, impl_frameAt_s2 rec ((), IntKind.wrap .i64 d, x, (x.length : Int), (i : Int), ()) = bif !decide ((x.getD i z_Event).1 = 1) then rec ((), IntKind.wrap .i64 d, x, (x.length : Int), IntKind.wrap .i64 ((i : Int) + 1), ()) else bif decide (IntKind.wrap .i64 d = 0) then some (Sum.inl ((), (i : Int), ())) else rec ((), IntKind.wrap .i64 (IntKind.wrap .i64 d - 1), x, (x.length : Int), IntKind.wrap .i64 ((i : Int) + 1), ()) := by
      intro rec; unfold impl_frameAt_s2
      rw [bif_t (by simp; omega), bif_t (by simp; omega), bif_t (by simp; omega)]
      rfl
    rw [iter_succ, step, drop_at x z_Event i hlt, wrap_pred, w64 (n := (i : Int) + 1) (by omega)]
    simp only [posF]
    by_cases h1 : (x.getD i z_Event).1 = 1
    · rw [if_pos h1, bif_f (by simpa using h1)]
      by_cases h2 : d = 0
      · rw [if_pos h2, bif_t (by simpa using (wrap_zero (by omega)).2 h2)]; rfl
      · rw [if_neg h2, bif_f (by simpa using fun h => h2 ((wrap_zero (by omega)).1 h))]
        exact implF_run x hl n (i + 1) k (d - 1) (by omega) (by omega) (by omega) (by omega)
    · rw [if_neg h1, bif_t (by simpa using h1)]
      exact implF_run x hl n (i + 1) k d (by omega) (by omega) (by omega) (by omega)
theorem specF_run (x : List D_Event) (hl : (x.length : Int) ≤ M0) (m : Int) : ∀ (n i k : Nat) (c : Int), i + n = x.length → n < k → -1 ≤ c → c < i →
    iter spec_l24Frame_s3 k ((), x, m, c, (i : Int), ()) = some (outF (posF (x.drop i) i (m - (c + 1))))
  | 0, i, k + 1, c, hi, _, h0, hM => by
    have step : ∀ rec, spec_l24Frame_s3 rec ((), x, m, c, (i : Int), ()) = some (Sum.inr ((), ())) := by
      intro rec; unfold spec_l24Frame_s3
      rw [bif_f (by simp; omega)]
    rw [iter_succ, step, List.drop_of_length_le (by omega)]; rfl
  | n + 1, i, k + 1, c, hi, hk, h0, hM => by
    have hM' : M0 = 1048576 := rfl
    have hlt : i < x.length := by omega
    have step : ∀ rec, spec_l24Frame_s3 rec ((), x, m, c, (i : Int), ()) = bif decide ((x.getD i z_Event).1 = 1) then (bif decide (IntKind.wrap .i64 (c + 1) = m) then some (Sum.inl ((), (i : Int), ())) else rec ((), x, m, IntKind.wrap .i64 (c + 1), IntKind.wrap .i64 ((i : Int) + 1), ())) else rec ((), x, m, c, IntKind.wrap .i64 ((i : Int) + 1), ()) := by
      intro rec; unfold spec_l24Frame_s3
      rw [bif_t (by simp; omega), bif_t (by simp; omega), bif_t (by simp; omega)]
      rfl
    rw [iter_succ, step, drop_at x z_Event i hlt, w64 (n := c + 1) (by omega), w64 (n := (i : Int) + 1) (by omega)]
    simp only [posF]
    by_cases h1 : (x.getD i z_Event).1 = 1
    · rw [if_pos h1, bif_t (by simpa using h1)]
      by_cases h2 : c + 1 = m
      · rw [if_pos (by omega), bif_t (by simpa using h2)]; rfl
      · rw [if_neg (by omega), bif_f (by simpa using h2)]
        have := specF_run x hl m n (i + 1) k (c + 1) (by omega) (by omega) (by omega) (by omega)
        rw [show m - (c + 1) - 1 = m - (c + 1 + 1) by omega]
        exact this
    · rw [if_neg h1, bif_f (by simpa using h1)]
      exact specF_run x hl m n (i + 1) k c (by omega) (by omega) (by omega) (by omega)
end Go.Tw
