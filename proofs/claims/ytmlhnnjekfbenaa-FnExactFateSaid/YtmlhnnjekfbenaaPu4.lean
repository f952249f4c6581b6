/- Plain facts on the mirrors of the functions are proved here. -/
import Derived.Test.YtmlhnnjekfbenaaPu3
set_option linter.all false
namespace Go.Tw
open Go Go.RowKit

def upTo (c : Int) (n : Nat) : List Int := (List.range n).map fun (j : Nat) => c + (j : Int)
theorem upTo_len (c : Int) (n : Nat) : (upTo c n).length = n := by simp [upTo]
theorem upTo_succ (c : Int) (n : Nat) : upTo c (n + 1) = upTo c n ++ [c + n] := by simp [upTo, List.range_succ]
theorem markInt_run (N : Nat) (hN : N ≤ 1048576) (c : Int) (hc : 0 ≤ c ∧ c ≤ 4611686018427387904) : ∀ (m i k : Nat) (acc : List Int), i + m = N → m < k → acc.length = N → acc.take i = upTo c i →
    iter laws_markIntS_s2 k ((acc, ()), (), c + i, (i : Int), ()) = some ((upTo c N, ()), c + N, ())
  | 0, i, k + 1, acc, hi, _, ha, ht => by
    have hiN : i = N := by omega
    subst hiN
    have step : ∀ rec, laws_markIntS_s2 rec ((acc, ()), (), c + i, (i : Int), ()) = some ((acc, ()), c + i, ()) := by
      intro rec; unfold laws_markIntS_s2
      rw [bif_f (by simp; omega)]
    rw [iter_succ, step]
    have : acc = upTo c i := by rw [← ht, List.take_of_length_le (by omega)]
    rw [this]
  | m + 1, i, k + 1, acc, hi, hk, ha, ht => by
    have hlt : i < acc.length := by omega
    have step : ∀ rec, laws_markIntS_s2 rec ((acc, ()), (), c + i, (i : Int), ()) = rec ((acc.set i (c + i), ()), (), IntKind.wrap .i64 (c + i + 1), IntKind.wrap .i64 ((i : Int) + 1), ()) := by
      intro rec; unfold laws_markIntS_s2
      rw [bif_t (by simp; omega), bif_t (by simp; omega), bif_t (by simp; omega)]
      rfl
    rw [iter_succ, step, w64 (by omega), w64 (by omega)]
    have := markInt_run N hN c hc m (i + 1) k (acc.set i (c + i)) (by omega) (by omega) (by simpa using ha) (by
      rw [List.take_add_one, List.take_set_of_le (Nat.le_refl _), ht, upTo_succ]
      simp [hlt])
    rw [show c + ((i + 1 : Nat) : Int) = c + i + 1 by omega] at this
    exact this
theorem markInt_ok (k : Nat) (hk : (1048576 : Int) < k) (x : List Int) (hx : x.length ≤ 1048576) (c : Int) (hc : 0 ≤ c ∧ c ≤ 4611686018427387904) : laws_markIntS k x c = some ((c + x.length, ()), (upTo c x.length, ())) := by
  unfold laws_markIntS
  have := markInt_run x.length hx c hc x.length 0 k x (by omega) (by omega) rfl (by simp [upTo])
  rw [show c + ((0 : Nat) : Int) = c by omega] at this
  rw [show iter laws_markIntS_s2 k ((x, ()), (), c, (0 : Int), ()) = _ from this]
  rfl
theorem heldInt_run (N : Nat) (hN : N ≤ 1048576) (c : Int) (hc : 0 ≤ c ∧ c ≤ 4611686018427387904) : ∀ (m i k : Nat), i + m = N → m < k →
    iter laws_heldIntS_s2 k ((), upTo c N, c + i, (i : Int), ()) = some (Sum.inr ((), c + N, ()))
  | 0, i, k + 1, hi, _ => by
    have hiN : i = N := by omega
    subst hiN
    have step : ∀ rec, laws_heldIntS_s2 rec ((), upTo c i, c + i, (i : Int), ()) = some (Sum.inr ((), c + i, ())) := by
      intro rec; unfold laws_heldIntS_s2
      rw [bif_f (by simp [upTo_len])]
    rw [iter_succ, step]
  | m + 1, i, k + 1, hi, hk => by
    have hlt : i < N := by omega
    have step : ∀ rec, laws_heldIntS_s2 rec ((), upTo c N, c + i, (i : Int), ()) = rec ((), upTo c N, IntKind.wrap .i64 (c + i + 1), IntKind.wrap .i64 ((i : Int) + 1), ()) := by
      intro rec; unfold laws_heldIntS_s2
      rw [bif_t (by simp [upTo_len]; omega), bif_t (by simp [upTo_len]; omega), bif_t (by simp [upTo_len]; omega)]
      rw [bif_f]
      simp [upTo, hlt]
    rw [iter_succ, step, w64 (by omega), w64 (by omega)]
    have := heldInt_run N hN c hc m (i + 1) k (by omega) (by omega)
    rw [show c + ((i + 1 : Nat) : Int) = c + i + 1 by omega] at this
    exact this
theorem heldInt_ok (k : Nat) (hk : (1048576 : Int) < k) (N : Nat) (hN : N ≤ 1048576) (c : Int) (hc : 0 ≤ c ∧ c ≤ 4611686018427387904) : laws_heldIntS k (upTo c N) c = some ((c + N, ()), ()) := by
  unfold laws_heldIntS
  have := heldInt_run N hN c hc N 0 k (by omega) (by omega)
  rw [show c + ((0 : Nat) : Int) = c by omega] at this
  rw [show iter laws_heldIntS_s2 k ((), upTo c N, c, (0 : Int), ()) = _ from this]
  rfl
end Go.Tw
