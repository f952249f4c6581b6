/- Plain facts on the mirrors of the functions are proved here. -/
import Derived.Test.YtmlhnnjekfbenaaPu0
import Derived.Test.YtmlhnnjekfbenaaMb
set_option linter.all false
namespace Go.Tw
open Go Go.RowKit

def tbump (n : List Int) (j : Nat) : List Int := n.set j (IntKind.wrap .i64 (n.getD j 0 + 1))
def tstep (e : D_Out) (n : List Int) : List Int :=
  if e.1 = 1 then tbump n 0 else if e.1 = 2 then (if 1 ≤ e.2.2.1 ∧ e.2.2.1 ≤ 10 then tbump n e.2.2.1.toNat else n)
  else if e.1 = 3 then (if e.2.2.1 = 0 then tbump n 11 else tbump n 12) else if e.1 = 4 then tbump n 13 else n
theorem tstep_len (e : D_Out) (n : List Int) : (tstep e n).length = n.length := by
  unfold tstep tbump
  repeat' split
  all_goals simp
theorem specT_step (x : List D_Out) (n : List Int) (hn : n.length = 14) (i : Nat) (hi : i < x.length) (rec) : spec_Tally_s5 rec ((), x, n, (i : Int), ()) = rec ((), x, tstep (x.getD i z_Out) n, IntKind.wrap .i64 ((i : Int) + 1), ()) := by
  have step0 : spec_Tally_s5 rec ((), x, n, (i : Int), ()) = rec ((), x, tstep (x.getD (i : Int).toNat z_Out) n, IntKind.wrap .i64 ((i : Int) + 1), ()) := by
    unfold spec_Tally_s5
    rw [bif_t (by simp; omega), bif_t (by simp; omega), bif_t (by simp; omega)]
    obtain ⟨e, he⟩ : ∃ e, e = x.getD (i : Int).toNat z_Out := ⟨_, rfl⟩
    rw [← he]
    obtain ⟨kd, id, c, l, m, _⟩ := e
    unfold tstep tbump
    simp only [hn]
    by_cases h1 : kd = 1
    · simp [h1]
    by_cases h2 : kd = 2
    · by_cases h3 : 1 ≤ c <;> by_cases h4 : c ≤ 10
      · have : 0 ≤ c := by omega
        have : c < 14 := by omega
        have : c.toNat < 14 := by omega
        simp [h2, h3, h4, *]
      all_goals simp [h2, h3, h4]
    by_cases h3 : kd = 3
    · by_cases h4 : c = 0 <;> simp [h3, h4]
    by_cases h4 : kd = 4
    · simp [h4]
    · simp [h1, h2, h3, h4]
  exact step0
theorem implT_step (x : List D_Out) (n : List Int) (hn : n.length = 14) (i : Nat) (hi : i < x.length) (rec) : impl_Tally_s5 rec ((), n, x, (x.length : Int), (i : Int), ()) = rec ((), tstep (x.getD i z_Out) n, x, (x.length : Int), IntKind.wrap .i64 ((i : Int) + 1), ()) := by
  have step0 : impl_Tally_s5 rec ((), n, x, (x.length : Int), (i : Int), ()) = rec ((), tstep (x.getD (i : Int).toNat z_Out) n, x, (x.length : Int), IntKind.wrap .i64 ((i : Int) + 1), ()) := by
    unfold impl_Tally_s5 impl_within
    rw [bif_t (by simp; omega), bif_t (by simp; omega), bif_t (by simp; omega)]
    obtain ⟨e, he⟩ : ∃ e, e = x.getD (i : Int).toNat z_Out := ⟨_, rfl⟩
    rw [← he]
    obtain ⟨kd, id, c, l, m, _⟩ := e
    unfold tstep tbump
    simp only [hn]
    by_cases h1 : kd = 1
    · simp [h1]
    by_cases h2 : kd = 2
    · by_cases h3 : 1 ≤ c <;> by_cases h4 : c ≤ 10
      · have : 0 ≤ c := by omega
        have : c < 14 := by omega
        have : c.toNat < 14 := by omega
        simp [h2, h3, h4, *]
      all_goals by_cases h5 : c = 0 <;> simp [h2, h3, h4, h5]
    by_cases h3 : kd = 3
    · by_cases h4 : c = 0 <;> simp [h3, h4]
    by_cases h4 : kd = 4
    · simp [h4]
    · simp [h1, h2, h3, h4]
  exact step0
def tally (x : List D_Out) (n : List Int) : List Int := x.foldl (fun n e => tstep e n) n
theorem specT_run (x : List D_Out) (hl : (x.length : Int) ≤ 1048576) : ∀ (m i k : Nat) (n : List Int), i + m = x.length → m < k → n.length = 14 →
    iter spec_Tally_s5 k ((), x, n, (i : Int), ()) = some ((), tally (x.drop i) n, ())
  | 0, i, k + 1, n, hi, _, hn => by
    have step : ∀ rec, spec_Tally_s5 rec ((), x, n, (i : Int), ()) = some ((), n, ()) := by
      intro rec; unfold spec_Tally_s5
      rw [bif_f (by simp; omega)]
    rw [iter_succ, step, List.drop_of_length_le (by omega)]; rfl
  | m + 1, i, k + 1, n, hi, hk, hn => by
    rw [iter_succ, specT_step x n hn i (by omega), w64 (by omega), drop_at x z_Out i (by omega)]
    exact specT_run x hl m (i + 1) k _ (by omega) (by omega) (by rw [tstep_len, hn])
theorem implT_run (x : List D_Out) (hl : (x.length : Int) ≤ 1048576) : ∀ (m i k : Nat) (n : List Int), i + m = x.length → m < k → n.length = 14 →
    iter impl_Tally_s5 k ((), n, x, (x.length : Int), (i : Int), ()) = some ((), tally (x.drop i) n, ())
  | 0, i, k + 1, n, hi, _, hn => by
    have step : ∀ rec, impl_Tally_s5 rec ((), n, x, (x.length : Int), (i : Int), ()) = some ((), n, ()) := by
      intro rec; unfold impl_Tally_s5
      rw [bif_f (by simp; omega)]
    rw [iter_succ, step, List.drop_of_length_le (by omega)]; rfl
  | m + 1, i, k + 1, n, hi, hk, hn => by
    rw [iter_succ, implT_step x n hn i (by omega), w64 (by omega), drop_at x z_Out i (by omega)]
    exact implT_run x hl m (i + 1) k _ (by omega) (by omega) (by rw [tstep_len, hn])
def tallyOf (x : List D_Out) : List Int := if (x.length : Int) ≤ 2000 then tally x (List.replicate 14 0) else []
theorem spec_Tally_eq (k : Nat) (hk : (1048576 : Int) < k) (x : List D_Out) (hl : (x.length : Int) ≤ 1048576) : spec_Tally k x = some ((tallyOf x, ()), ()) := by
  unfold spec_Tally spec_l24Few tallyOf
  by_cases h : (x.length : Int) ≤ 2000
  · simp only [Option.bind_some, h, decide_true]
    rw [bif_f (b := !true) rfl]
    have := specT_run x hl x.length 0 k (List.replicate 14 0) (by omega) (by omega) (by simp)
    rw [show iter spec_Tally_s5 k ((), x, ([(0 : Int), (0 : Int), (0 : Int), (0 : Int), (0 : Int), (0 : Int), (0 : Int), (0 : Int), (0 : Int), (0 : Int), (0 : Int), (0 : Int), (0 : Int), (0 : Int)] : List Int), (0 : Int), ()) = _ from this]
    simp
  · simp [h]
theorem impl_Tally_eq (k : Nat) (hk : (1048576 : Int) < k) (x : List D_Out) (hl : (x.length : Int) ≤ 1048576) : impl_Tally k x = some ((tallyOf x, ()), ()) := by
  unfold impl_Tally tallyOf
  by_cases h : (x.length : Int) ≤ 2000
  · rw [bif_f (by simp; omega)]
    have := implT_run x hl x.length 0 k (List.replicate 14 0) (by omega) (by omega) (by simp)
    rw [show iter impl_Tally_s5 k ((), ([(0 : Int), (0 : Int), (0 : Int), (0 : Int), (0 : Int), (0 : Int), (0 : Int), (0 : Int), (0 : Int), (0 : Int), (0 : Int), (0 : Int), (0 : Int), (0 : Int)] : List Int), x, (((List.length x) : Nat) : Int), (0 : Int), ()) = _ from this]
    simp [h]
  · rw [bif_t (by simp; omega)]; simp [h]
theorem tallyOf_len (x : List D_Out) : (tallyOf x).length ≤ 14 := by
  have : ∀ (x : List D_Out) (n : List Int), (tally x n).length = n.length := by
    intro x
    induction x with
    | nil => intro n; rfl
    | cons e x ih => intro n; simp only [tally, List.foldl_cons]; rw [← tstep_len e n]; exact ih _
  unfold tallyOf
  split
  · rw [this]; simp
  · simp
end Go.Tw
