/- Facts on mirrors. -/
import Derived.Test.YtmnfadocihfiaaaGreatPp9
set_option linter.all false
set_option maxRecDepth 100000
set_option maxHeartbeats 4000000
namespace Go.Tw
open Go Go.RowKit
theorem words_run (l : List Int) (hl : l.length ≤ 1000) : ∀ (m i k : Nat), i + m = l.length → m < k →
    iter impl_areWords_s2 k ((), l, ((l.length : Nat) : Int), (i : Int), ()) = some (bif (l.drop i).all (fun x => inB x 0 65535) then Sum.inr ((), ()) else Sum.inl ((), false, ()))
  | m, i, 0, h, hk => by omega
  | 0, i, k + 1, h, hk => by
    have st : ∀ rec, impl_areWords_s2 rec ((), l, ((l.length : Nat) : Int), (i : Int), ()) = some (Sum.inr ((), ())) := fun rec => by
      unfold impl_areWords_s2; exact bif_f (decide_eq_false (by dsimp only; omega))
    rw [iter_succ, st, List.drop_eq_nil_of_le (by omega)]; rfl
  | m + 1, i, k + 1, h, hk => by
    have hi : i < l.length := by omega
    have st : ∀ rec, impl_areWords_s2 rec ((), l, ((l.length : Nat) : Int), (i : Int), ()) = bif inB (l.getD i 0) 0 65535 then rec ((), l, ((l.length : Nat) : Int), ((i + 1 : Nat) : Int), ()) else some (Sum.inl ((), false, ())) := fun rec => by
      unfold impl_areWords_s2
      dsimp only
      rw [bif_t (decide_eq_true (by omega)), bif_t (by simp; omega), bif_t (decide_eq_true (by omega))]
      simp only [Int.toNat_natCast, wordI, Option.bind_some, bn]
      rw [w64 (n := (i : Int) + 1) (by omega)]
      rfl
    rw [iter_succ, st, List.drop_eq_getElem_cons hi, List.all_cons, ← getD_at l 0 i hi]
    cases inB (l.getD i 0) 0 65535
    · rfl
    · rw [Bool.true_and]
      exact words_run l hl m (i + 1) k (by omega) (by omega)
theorem wordsI (k : Nat) (hk : MM < k) (l : List Int) (hl : l.length ≤ 1000) : impl_areWords k l = some ((l.all (fun x => inB x 0 65535), ()), ()) := by
  have hM : MM = 1048576 := rfl
  unfold impl_areWords
  rw [show iter impl_areWords_s2 k ((), l, ((l.length : Nat) : Int), (0:Int), ()) = _ from words_run l hl l.length 0 k (by omega) (by omega), List.drop_zero]
  cases l.all (fun x => inB x 0 65535) <;> rfl
theorem zero_run (l : List Int) (hl : l.length ≤ 1000) : ∀ (m i k : Nat), i + m = l.length → m < k →
    ∃ j : Int, 0 ≤ j ∧ iter slices_IndexFunc_int_s2 k ((), l, (), ((l.length : Nat) : Int), (i : Int), ()) = some (bif (l.drop i).all (fun x => decide (x = 0)) then Sum.inr ((), ()) else Sum.inl ((), j, ()))
  | m, i, 0, h, hk => by omega
  | 0, i, k + 1, h, hk => by
    refine ⟨0, by omega, ?_⟩
    have st : ∀ rec, slices_IndexFunc_int_s2 rec ((), l, (), ((l.length : Nat) : Int), (i : Int), ()) = some (Sum.inr ((), ())) := fun rec => by
      unfold slices_IndexFunc_int_s2; exact bif_f (decide_eq_false (by dsimp only; omega))
    rw [iter_succ, st, List.drop_eq_nil_of_le (by omega)]; rfl
  | m + 1, i, k + 1, h, hk => by
    obtain ⟨j, hj, ih⟩ := zero_run l hl m (i + 1) k (by omega) (by omega)
    have hi : i < l.length := by omega
    have st : ∀ rec, slices_IndexFunc_int_s2 rec ((), l, (), ((l.length : Nat) : Int), (i : Int), ()) = bif decide (l.getD i 0 = 0) then rec ((), l, (), ((l.length : Nat) : Int), ((i + 1 : Nat) : Int), ()) else some (Sum.inl ((), (i : Int), ())) := fun rec => by
      unfold slices_IndexFunc_int_s2 impl_areZero_1
      dsimp only
      rw [bif_t (decide_eq_true (by omega)), bif_t (by simp; omega), bif_t (decide_eq_true (by omega))]
      simp only [Int.toNat_natCast, Option.bind_some, bn]
      rw [w64 (n := (i : Int) + 1) (by omega)]
      rfl
    rw [iter_succ, st, List.drop_eq_getElem_cons hi, List.all_cons, ← getD_at l 0 i hi]
    cases decide (l.getD i 0 = 0)
    · exact ⟨i, by omega, rfl⟩
    · exact ⟨j, hj, by rw [Bool.true_and]; exact ih⟩
theorem zerosI (k : Nat) (hk : MM < k) (l : List Int) (hl : l.length ≤ 1000) : impl_areZero k l = some ((l.all (fun x => decide (x = 0)), ()), ()) := by
  have hM : MM = 1048576 := rfl
  unfold impl_areZero slices_ContainsFunc_int slices_IndexFunc_int
  obtain ⟨j, hj, e⟩ := zero_run l hl l.length 0 k (by omega) (by omega)
  rw [show iter slices_IndexFunc_int_s2 k ((), l, (), ((l.length : Nat) : Int), (0:Int), ()) = _ from e, List.drop_zero]
  cases l.all (fun x => decide (x = 0))
  · simp only [cond_false, Option.bind_some, Sum.elim_inl]
    rw [decide_eq_true hj]; rfl
  · rfl
abbrev upT (sp dp sq ak bt wn ur : Int) (o b : List Int) : D_Upper := (1, sp, dp, sq, ak, bt, wn, ur, 0, 0, 0, false, o, b, ())
abbrev upU (sp dp : Int) (ns : Bool) (b : List Int) : D_Upper := (2, sp, dp, 0, 0, 0, 0, 0, 0, 0, 0, ns, [], b, ())
abbrev upI (ty cd rs : Int) (b : List Int) : D_Upper := (3, 0, 0, 0, 0, 0, 0, 0, ty, cd, rs, false, [], b, ())
abbrev upO (b : List Int) : D_Upper := (0, 0, 0, 0, 0, 0, 0, 0, 0, 0, 0, false, [], b, ())
section
variable {sp dp sq ak bt wn ur ty cd rs n : Int} {ns : Bool} {o b : List Int}
theorem uszT (h : o.length + b.length ≤ 2000) : impl_UpperSize (upT sp dp sq ak bt wn ur o b) = some ((20 + ((o.length : Nat) : Int) + ((b.length : Nat) : Int), ()), ()) ∧ spec_UpperSize (upT sp dp sq ak bt wn ur o b) = some ((20 + ((o.length : Nat) : Int) + ((b.length : Nat) : Int), ()), ()) := by
  have w1 : IntKind.wrap .i64 (20 + ((o.length : Nat) : Int)) = 20 + ((o.length : Nat) : Int) := w64 (by omega)
  have w2 : IntKind.wrap .i64 (20 + ((o.length : Nat) : Int) + ((b.length : Nat) : Int)) = 20 + ((o.length : Nat) : Int) + ((b.length : Nat) : Int) := w64 (by omega)
  constructor
  · unfold impl_UpperSize impl_upperHead; simp [w1, w2]
  · unfold spec_UpperSize; simp [w1, w2]
theorem uszU (h : b.length ≤ 2000) : impl_UpperSize (upU sp dp ns b) = some ((8 + ((b.length : Nat) : Int), ()), ()) ∧ spec_UpperSize (upU sp dp ns b) = some ((8 + ((b.length : Nat) : Int), ()), ()) := by
  have w2 : IntKind.wrap .i64 (8 + ((b.length : Nat) : Int)) = 8 + ((b.length : Nat) : Int) := w64 (by omega)
  constructor
  · unfold impl_UpperSize impl_upperHead; simp [w2]
  · unfold spec_UpperSize; simp [w2]
theorem uszI (h : b.length ≤ 2000) : impl_UpperSize (upI ty cd rs b) = some ((8 + ((b.length : Nat) : Int), ()), ()) ∧ spec_UpperSize (upI ty cd rs b) = some ((8 + ((b.length : Nat) : Int), ()), ()) := by
  have w2 : IntKind.wrap .i64 (8 + ((b.length : Nat) : Int)) = 8 + ((b.length : Nat) : Int) := w64 (by omega)
  constructor
  · unfold impl_UpperSize impl_upperHead; simp [w2]
  · unfold spec_UpperSize; simp [w2]
theorem uszO (h : b.length ≤ 2000) : impl_UpperSize (upO b) = some ((((b.length : Nat) : Int), ()), ()) ∧ spec_UpperSize (upO b) = some ((((b.length : Nat) : Int), ()), ()) := by
  have w2 : IntKind.wrap .i64 (0 + ((b.length : Nat) : Int)) = ((b.length : Nat) : Int) := (w64 (n := 0 + ((b.length : Nat) : Int)) ⟨by omega, by omega⟩).trans (by omega)
  have w3 : IntKind.wrap .i64 ((b.length : Nat) : Int) = ((b.length : Nat) : Int) := w64 (by omega)
  constructor
  · unfold impl_UpperSize impl_upperHead; simp [w2, w3]
  · unfold spec_UpperSize; simp
end
end Go.Tw
