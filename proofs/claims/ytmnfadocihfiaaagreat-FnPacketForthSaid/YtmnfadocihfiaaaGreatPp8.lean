/- Facts on mirrors. -/
import Derived.Test.YtmnfadocihfiaaaGreatPp7
set_option linter.all false
set_option maxRecDepth 100000
set_option maxHeartbeats 4000000
namespace Go.Tw
open Go Go.RowKit
theorem getD_sub {d : List Int} {a t i : Nat} (h : i < t) (hd : a + i < d.length) : ((d.drop a).take t).getD i 0 = d.getD (a + i) 0 := by
  rw [getD_at d 0 (a + i) hd, getD_at _ 0 i (by rw [List.length_take, List.length_drop]; omega), List.getElem_take, List.getElem_drop]
abbrev S8 (c1 c2 c3 c4 : Int) (a1 a2 : D_Addr) (o : List D_Ext) (r : List Int × Unit) : D_Six := (c1, c2, c3, c4, a1, a2, o, r)
theorem exS_step (rec) (d : List Int) (E at_ : Nat) (hE : at_ ≤ E ∧ E ≤ d.length) (hd : d.length ≤ 2000) (hb : bytesP d) (kind c1 c2 c3 c4 : Int) (a1 a2 : D_Addr) (out : List D_Ext) (r : List Int × Unit) (ho : out.length ≤ 3) :
    spec_SixRead_s17 rec ((), d, zzS, (E : Int), S8 c1 c2 c3 c4 a1 a2 out r, kind, (at_ : Int), ()) =
      bif exK kind then (bif stopB kind ((d.drop at_).take (E - at_)) out then some (Sum.inl ((), zzS, [], 5, ())) else
        rec ((), d, zzS, (E : Int), S8 c1 c2 c3 c4 a1 a2 (nxt kind ((d.drop at_).take (E - at_)) out) r, ((d.drop at_).take (E - at_)).getD 0 0, ((at_ + xT ((d.drop at_).take (E - at_)) : Nat) : Int), ()))
      else some (Sum.inr ((), d, zzS, (E : Int), S8 c1 c2 c3 c4 a1 a2 out r, kind, (at_ : Int), ())) := by
  obtain ⟨hE1, hE2⟩ := hE
  have hll : ((d.drop at_).take (E - at_)).length = E - at_ := by rw [List.length_take, List.length_drop]; omega
  unfold spec_SixRead_s17
  simp only [exKS, Option.bind_some]
  cases exK kind
  · rfl
  simp only [cond_true, bn]
  unfold stopB
  by_cases h3 : out.length = 3
  · rw [decide_eq_true (show ((out.length : Nat) : Int) = 3 by omega), decide_eq_true h3]; rfl
  rw [decide_eq_false (show ¬ ((out.length : Nat) : Int) = 3 by omega), decide_eq_false h3]
  simp only [cond_false, Bool.false_or]
  obtain ⟨l, hl⟩ : ∃ l, l = (d.drop at_).take (E - at_) := ⟨_, rfl⟩
  rw [← hl] at hll ⊢
  have w1 : IntKind.wrap .i64 ((at_ : Int) + 1) = ((at_ + 1 : Nat) : Int) := w64 (by omega)
  have w2 : IntKind.wrap .i64 ((at_ : Int) + 2) = ((at_ + 2 : Nat) : Int) := w64 (by omega)
  simp only [w1, w2, Int.toNat_natCast]
  have core : l.length < 2 ∨ (2 ≤ l.length ∧ d.getD (at_ + 1) 0 = l.getD 1 0 ∧ d.getD at_ 0 = l.getD 0 0 ∧ (0 ≤ l.getD 1 0 ∧ l.getD 1 0 ≤ 255) ∧ (0 ≤ l.getD 0 0 ∧ l.getD 0 0 ≤ 255)) := by
    rcases Nat.lt_or_ge l.length 2 with h | h
    · exact .inl h
    · have g1 : l.getD 1 0 = d.getD (at_ + 1) 0 := by rw [hl]; exact getD_sub (by omega) (by omega)
      have g0 : l.getD 0 0 = d.getD at_ 0 := by rw [hl]; exact getD_sub (i := 0) (by omega) (by omega)
      exact .inr ⟨h, g1.symm, g0.symm, by rw [g1]; exact hb _ (getD_mem d 0 _ (by omega)), by rw [g0]; exact hb _ (getD_mem d 0 _ (by omega))⟩
  rcases core with h2 | ⟨h2, g1, g0, r1, r0⟩
  · have e1 : decide ((E : Int) < ((at_ + 2 : Nat) : Int)) = true := decide_eq_true (by omega)
    have e2 : decide (l.length < 2) = true := decide_eq_true h2
    simp only [e1, e2, cond_true, Bool.true_or, Bool.or_true]
    cases decide (kind = 0) <;> cases decide ((0 : Int) < ((out.length : Nat) : Int)) <;> rfl
  · have e1 : decide ((E : Int) < ((at_ + 2 : Nat) : Int)) = false := decide_eq_false (by omega)
    have e2 : decide (l.length < 2) = false := decide_eq_false (by omega)
    have e3 : decide ((0 : Int) ≤ ((at_ + 1 : Nat) : Int)) = true := decide_eq_true (by omega)
    have e4 : decide (((at_ + 1 : Nat) : Int) < ((d.length : Nat) : Int)) = true := decide_eq_true (by omega)
    have e5 : decide (at_ + 1 < d.length) = true := decide_eq_true (by omega)
    have eT : IntKind.wrap .i64 (IntKind.wrap .i64 ((at_ : Int) + IntKind.wrap .i64 (8 * IntKind.wrap .i64 (l.getD 1 0))) + 8) = ((at_ + xT l : Nat) : Int) := by
      rw [w64 (n := l.getD 1 0) (by omega), w64 (n := 8 * l.getD 1 0) (by omega), w64 (n := (at_ : Int) + 8 * l.getD 1 0) (by omega), w64 (by omega)]
      unfold xT; omega
    have w0 : IntKind.wrap .i64 (l.getD 0 0) = l.getD 0 0 := w64 (by omega)
    simp only [e1, e2, e3, e4, e5, g1, g0, eT, w0, Bool.and_self, cond_true, cond_false, Bool.false_or]
    have fin : ∀ X : Option ((Unit × (D_Six × (List Int × (Int × Unit)))) ⊕ (Unit × (List Int × (D_Six × (Int × (D_Six × (Int × (Int × Unit)))))))), X = (bif (decide ((7:Int) < (l.getD 1 0))) then some (Sum.inl ((), zzS, ([] : List Int), (5:Int), ()))
 else
 bif (decide ((E : Int) < ((at_ + xT l : Nat) : Int))) then
 some (Sum.inl ((), zzS, ([] : List Int), (5:Int), ()))
 else
 bif (((decide ((0:Int) ≤ ((at_ + 2 : Nat) : Int))) && (decide (((at_ + 2 : Nat) : Int) ≤ ((at_ + xT l : Nat) : Int)))) && (decide (((at_ + xT l : Nat) : Int) ≤ ((d.length : Nat) : Int)))) then
 bif (decide ((((0:Nat) + (List.length (List.take ((at_ + xT l) - (at_ + 2)) (List.drop (at_ + 2) d)))) * 1) ≤ (1099511627776:Nat))) then
 bif (decide ((((List.length out) + (1:Nat)) * 32) ≤ (1099511627776:Nat))) then
 bif ((decide ((0:Int) ≤ (at_ : Int))) && (decide ((at_ : Int) < ((d.length : Nat) : Int)))) then
 bif (decide (at_ < (List.length d))) then
 rec ((), d, zzS, (E : Int), (c1, c2, c3, c4, a1, a2, (out ++ ([(kind, (List.take ((at_ + xT l) - (at_ + 2)) (List.drop (at_ + 2) d)), ())] : List D_Ext)), r), l.getD 0 0, ((at_ + xT l : Nat) : Int), ())
 else none
 else none
 else none
 else none
 else none) → X = bif (decide (7 < l.getD 1 0) || decide (l.length < xT l)) then some (Sum.inl ((), zzS, [], 5, ())) else rec ((), d, zzS, (E : Int), S8 c1 c2 c3 c4 a1 a2 (nxt kind l out) r, l.getD 0 0, ((at_ + xT l : Nat) : Int), ()) := by
      rintro X rfl
      by_cases h7 : 7 < l.getD 1 0
      · rw [decide_eq_true h7]; rfl
      rw [decide_eq_false h7]
      by_cases hT : l.length < xT l
      · rw [decide_eq_true (show (E : Int) < ((at_ + xT l : Nat) : Int) by omega), decide_eq_true hT]; rfl
      rw [decide_eq_false (show ¬ (E : Int) < ((at_ + xT l : Nat) : Int) by omega), decide_eq_false hT]
      have x8 : 8 ≤ xT l := by unfold xT; omega
      have d1 : decide ((0 : Int) ≤ ((at_ + 2 : Nat) : Int)) = true := decide_eq_true (by omega)
      have d2 : decide (((at_ + 2 : Nat) : Int) ≤ ((at_ + xT l : Nat) : Int)) = true := decide_eq_true (by omega)
      have d3 : decide (((at_ + xT l : Nat) : Int) ≤ ((d.length : Nat) : Int)) = true := decide_eq_true (by omega)
      have d4 : decide ((0 + (List.take ((at_ + xT l) - (at_ + 2)) (List.drop (at_ + 2) d)).length) * 1 ≤ 1099511627776) = true := decide_eq_true (by rw [List.length_take, List.length_drop]; omega)
      have d5 : decide ((out.length + 1) * 32 ≤ 1099511627776) = true := decide_eq_true (by omega)
      have d6 : decide ((0 : Int) ≤ (at_ : Int)) = true := decide_eq_true (by omega)
      have d7 : decide ((at_ : Int) < ((d.length : Nat) : Int)) = true := decide_eq_true (by omega)
      have d8 : decide (at_ < d.length) = true := decide_eq_true (by omega)
      have eB : List.take ((at_ + xT l) - (at_ + 2)) (List.drop (at_ + 2) d) = (l.drop 2).take (xT l - 2) := by
        rw [hl, sub_take (by rw [← hl]; omega), List.drop_drop, ← hl, show at_ + xT l - (at_ + 2) = xT l - 2 by omega]
      simp only [d1, d2, d3, d4, d5, d6, d7, d8, Bool.and_self, cond_true, cond_false, Bool.or_self]
      rw [eB]
      rfl
    by_cases hz : kind = 0
    · rw [decide_eq_true hz]
      simp only [cond_true, Bool.true_and]
      by_cases h0 : 0 < out.length
      · rw [decide_eq_true (show (0 : Int) < ((out.length : Nat) : Int) by omega), decide_eq_true h0]; rfl
      rw [decide_eq_false (show ¬ (0 : Int) < ((out.length : Nat) : Int) by omega), decide_eq_false h0]
      exact fin _ rfl
    · rw [decide_eq_false hz]
      exact fin _ rfl
end Go.Tw
