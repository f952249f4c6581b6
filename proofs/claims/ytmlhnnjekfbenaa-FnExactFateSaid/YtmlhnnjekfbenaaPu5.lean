/- Plain facts on the mirrors of the functions are proved here. -/
import Derived.Test.YtmlhnnjekfbenaaPu4
set_option linter.all false
namespace Go.Tw
open Go Go.RowKit

theorem getD_set_eq {α : Type} (l : List α) (i : Nat) (x d : α) (h : i < l.length) : (l.set i x).getD i d = x := by simp [List.getD, h]
theorem getD_set_ne {α : Type} (l : List α) (i j : Nat) (x d : α) (h : j ≠ i) : (l.set i x).getD j d = l.getD j d := by
  simp only [List.getD]; rw [List.getElem?_set_ne (Ne.symm h)]
theorem markByte_run (N : Nat) (hN : N ≤ 1048576) (c : Int) (hc : 0 ≤ c ∧ c ≤ 4611686018427387904) : ∀ (m i k : Nat) (acc : List Int), i + m = N → m < k → acc.length = N →
    ∃ y, iter laws_markByteS_s2 k ((acc, ()), (), c + i, (i : Int), ()) = some ((y, ()), c + N, ())
  | 0, i, k + 1, acc, hi, _, ha => by
    have hiN : i = N := by omega
    subst hiN
    have step : ∀ rec, laws_markByteS_s2 rec ((acc, ()), (), c + i, (i : Int), ()) = some ((acc, ()), c + i, ()) := by
      intro rec; unfold laws_markByteS_s2
      rw [bif_f (by simp; omega)]
    exact ⟨acc, by rw [iter_succ, step]⟩
  | m + 1, i, k + 1, acc, hi, hk, ha => by
    have step : ∀ rec, laws_markByteS_s2 rec ((acc, ()), (), c + i, (i : Int), ()) = rec ((acc.set i (IntKind.wrap .u8 (c + i)), ()), (), IntKind.wrap .i64 (c + i + 1), IntKind.wrap .i64 ((i : Int) + 1), ()) := by
      intro rec; unfold laws_markByteS_s2
      rw [bif_t (by simp; omega), bif_t (by simp; omega), bif_t (by simp; omega)]
      rfl
    rw [iter_succ, step, w64 (by omega), w64 (by omega)]
    have := markByte_run N hN c hc m (i + 1) k (acc.set i (IntKind.wrap .u8 (c + i))) (by omega) (by omega) (by simpa using ha)
    rw [show c + ((i + 1 : Nat) : Int) = c + i + 1 by omega] at this
    exact this
theorem markByte_ok (k : Nat) (hk : (1048576 : Int) < k) (x : List Int) (hx : x.length ≤ 1048576) (c : Int) (hc : 0 ≤ c ∧ c ≤ 4611686018427387904) : ∃ y, laws_markByteS k x c = some ((c + x.length, ()), (y, ())) := by
  unfold laws_markByteS
  obtain ⟨y, this⟩ := markByte_run x.length hx c hc x.length 0 k x (by omega) (by omega) rfl
  rw [show c + ((0 : Nat) : Int) = c by omega] at this
  exact ⟨y, by rw [show iter laws_markByteS_s2 k ((x, ()), (), c, (0 : Int), ()) = _ from this]; rfl⟩
def BOut (e : D_Out) : Prop := e.2.2.2.1.length ≤ 1048576 ∧ e.2.2.2.2.1.length ≤ 1048576
theorem markOut_run (k' : Nat) (hk' : (1048576 : Int) < k') (N : Nat) (hN : N ≤ 1048576) : ∀ (m i k : Nat) (acc : List D_Out) (c : Int), i + m = N → m < k → acc.length = N → (∀ j, i ≤ j → j < N → BOut (acc.getD j z_Out)) → 0 ≤ c → c ≤ 1 + 2097155 * i →
    ∃ y c', iter (laws_markOutS_s2 k') k ((acc, ()), (), c, (i : Int), ()) = some ((y, ()), c', ()) ∧ 0 ≤ c'
  | 0, i, k + 1, acc, c, hi, _, ha, _, h0, _ => by
    have step : ∀ rec, laws_markOutS_s2 k' rec ((acc, ()), (), c, (i : Int), ()) = some ((acc, ()), c, ()) := by
      intro rec; unfold laws_markOutS_s2
      rw [bif_f (by simp; omega)]
    exact ⟨acc, c, by rw [iter_succ, step], h0⟩
  | m + 1, i, k + 1, acc, c, hi, hk, ha, hB, h0, hc => by
    have hlt : i < acc.length := by omega
    obtain ⟨b1, b2⟩ := hB i (Nat.le_refl _) (by omega)
    obtain ⟨e, he⟩ : ∃ e, e = acc.getD i z_Out := ⟨_, rfl⟩
    rw [← he] at b1 b2
    obtain ⟨y, hy⟩ := markByte_ok k' hk' e.2.2.2.1 b1 (c + 1 + 1 + 1) (by omega)
    have hm := markInt_ok k' hk' e.2.2.2.2.1 b2 (c + 1 + 1 + 1 + e.2.2.2.1.length) (by omega)
    have step : ∃ acc' : List D_Out, acc'.length = acc.length ∧ (∀ j, j ≠ i → acc'.getD j z_Out = acc.getD j z_Out) ∧ ∀ rec, laws_markOutS_s2 k' rec ((acc, ()), (), c, (i : Int), ()) = rec ((acc', ()), (), c + 1 + 1 + 1 + e.2.2.2.1.length + e.2.2.2.2.1.length, IntKind.wrap .i64 ((i : Int) + 1), ()) := by
      refine ⟨acc.set i (c, c + 1, c + 1 + 1, y, upTo (c + 1 + 1 + 1 + e.2.2.2.1.length) e.2.2.2.2.1.length, ()), by simp, fun j hj => getD_set_ne _ _ _ _ _ hj, fun rec => ?_⟩
      unfold laws_markOutS_s2
      rw [bif_t (by simp; omega), bif_t (by simp; omega), bif_t (by simp; omega)]
      simp only [Int.toNat_natCast, List.length_set, getD_set_eq _ _ _ _ hlt, List.set_set]
      rw [← he, w64 (n := c + 1) (by omega), w64 (n := c + 1 + 1) (by omega), w64 (n := c + 1 + 1 + 1) (by omega)]
      rw [bif_t (by simp; omega), bif_t (by simp; omega), bif_t (by simp; omega), bif_t (by simp; omega), bif_t (by simp; omega), bif_t (by simp; omega)]
      simp only [hy, hm, Option.bind_some, List.length_set, getD_set_eq _ _ _ _ hlt, List.set_set]
      rw [bif_t (by simp; omega), bif_t (by simp; omega)]
    obtain ⟨acc', q1, q2, q3⟩ := step
    rw [iter_succ, q3, w64 (by omega)]
    exact markOut_run k' hk' N hN m (i + 1) k acc' _ (by omega) (by omega) (by omega) (fun j h1 h2 => by rw [q2 j (by omega)]; exact hB j (by omega) h2) (by omega) (by omega)
end Go.Tw
