/- Facts on mirrors. -/
import Derived.Test.YtmnfadocihfiaaaGreatPs6
set_option linter.all false
set_option maxRecDepth 100000
set_option maxHeartbeats 8000000
namespace Go.Tw
open Go Go.RowKit
section
variable (k : Nat) (hk : MM < k) (P : D_Packet) (B : PB P)
include hk B
theorem pkByS4 (h4 : P.1 = 4) : spec_PacketBytes k P = some ((pkBy P, ()), ()) := by
  have d4 : decide (P.1 = 4) = true := decide_eq_true h4
  have sr : spec_l08Src P = some ((P.2.2.1.2.2.2.2.2.2.2.1, ()), ()) := by unfold spec_l08Src; rw [d4]; rfl
  have ds : spec_l08Dst P = some ((P.2.2.1.2.2.2.2.2.2.2.2.1, ()), ()) := by unfold spec_l08Dst; rw [d4]; rfl
  have s1 := (usumIS k hk P.2.2.2.2.1 P.2.2.1.2.2.2.2.2.2.2.1 P.2.2.1.2.2.2.2.2.2.2.2.1 (Nat.le_trans B.uo (by decide)) (Nat.le_trans B.ub (by decide)) B.uob B.ubb).2
  have s2 := usum_neg k hk P.2.2.2.2.1 P.2.2.1.2.2.2.2.2.2.2.1 P.2.2.1.2.2.2.2.2.2.2.2.1 (Nat.le_trans B.uo (by decide)) (Nat.le_trans B.ub (by decide)) B.uob B.ubb
  have s3 := (upByIS k hk P.2.2.2.2.1 P.2.2.1.2.2.2.2.2.2.2.1 P.2.2.1.2.2.2.2.2.2.2.2.1 (Nat.le_trans B.uo (by decide)) (Nat.le_trans B.ub (by decide)) B.uob B.ubb).2
  have s4 := (upBy_ok k hk P.2.2.2.2.1 P.2.2.1.2.2.2.2.2.2.2.1 P.2.2.1.2.2.2.2.2.2.2.2.1 (Nat.le_trans B.uo (by decide)) (Nat.le_trans B.ub (by decide)) B.uob B.ubb).2
  have lb : (fB (wF P.2.2.1 (by4 P))).length ≤ 1100000 := Nat.le_trans s4 (by decide)
  have lo : (fO (wF P.2.2.1 (by4 P))).length ≤ 1100000 := Nat.le_trans B.fo (by decide)
  have p1 := pieceS (wF P.2.2.1 (by4 P)) lo lb
  have p2 := fByS k hk (wF P.2.2.1 (by4 P)) lo lb B.fob
  have p3 := fourS (wF P.2.2.1 (by4 P)) lo lb
  have fl := fBy_le (wF P.2.2.1 (by4 P))
  have pl := B.pd
  have q : decide (((fBy (wF P.2.2.1 (by4 P))).length + P.2.2.2.2.2.1.length) * 1 ≤ 1099511627776) = true := decide_eq_true (by omega)
  have hl : (eB (e4 P)).length ≤ 1100000 := by
    show (fBy (wF P.2.2.1 (by4 P)) ++ P.2.2.2.2.2.1).length ≤ 1100000
    rw [List.length_append]; omega
  have p4 := ethS (e4 P) hl
  have p5 := etherByS (e4 P) hl
  have g : pkGood P = ok4 P := by unfold pkGood; rw [d4]; rfl
  have e : pkE P = e4 P := by unfold pkE; rw [d4]; rfl
  have gb : pkBy P = bif ok4 P then etherBy (e4 P) else [] := by unfold pkBy; rw [g, e]
  rw [gb]
  unfold ok4 in4 emp
  unfold e4 at p4 p5 ⊢
  unfold by4 at p1 p2 p3 p4 p5 q ⊢
  unfold spec_PacketBytes spec_PacketBytes_j0 spec_PacketBytes_j1
  simp only [d4, sr, ds, s1, s2, s3, Option.bind_some, cond_true, bn, bnn, p1, p2, p3, p4, p5, q, kgS _ 4 (.inl rfl), noSS]
  cases decide (((P.2.1.2.2.2.2.1.length : Nat) : Int) = 0)
  · rfl
  cases decide (((P.2.2.1.2.2.2.2.2.2.2.2.2.2.1.length : Nat) : Int) = 0)
  · rfl
  cases decide (((P.2.2.2.1.2.2.2.2.2.2.2.1.length : Nat) : Int) = 0)
  · rfl
  simp only [cond_true, Bool.true_and]
  cases upGood P.2.2.2.2.1 P.2.2.1.2.2.2.2.2.2.2.1 P.2.2.1.2.2.2.2.2.2.2.2.1
  · cases noS P.2.2.2.1 <;> cases decide (P.2.1.2.2.2.1 = 2048) <;> rfl
  simp only [cond_true, Bool.true_and]
  generalize upBy P.2.2.2.2.1 P.2.2.1.2.2.2.2.2.2.2.1 P.2.2.1.2.2.2.2.2.2.2.2.1 = L
  generalize ethB (wE P.2.1 (fBy (wF P.2.2.1 L) ++ P.2.2.2.2.2.1)) = b5
  cases pieceB (wF P.2.2.1 L)
  · simp only [cond_false]
    cases noS P.2.2.2.1
    · rfl
    cases decide (P.2.1.2.2.2.1 = 2048)
    · rfl
    cases fourB (wF P.2.2.1 L)
    · rfl
    cases decide (P.2.2.2.2.1.1 = kindG P.2.2.1.2.2.2.2.2.2.1 4)
    · rfl
    cases b5 <;> rfl
  · simp only [cond_true]
    cases noS P.2.2.2.1
    · rfl
    cases decide (P.2.1.2.2.2.1 = 2048)
    · rfl
    cases fourB (wF P.2.2.1 L)
    · rfl
    cases decide (P.2.2.2.2.1.1 = 0)
    · rfl
    cases b5 <;> rfl
theorem pkByS6 (h6 : P.1 = 6) : spec_PacketBytes k P = some ((pkBy P, ()), ()) := by
  have d4 : decide (P.1 = 4) = false := decide_eq_false (by omega)
  have d6 : decide (P.1 = 6) = true := decide_eq_true h6
  have sr : spec_l08Src P = some ((P.2.2.2.1.2.2.2.2.1, ()), ()) := by unfold spec_l08Src; rw [d4]; rfl
  have ds : spec_l08Dst P = some ((P.2.2.2.1.2.2.2.2.2.1, ()), ()) := by unfold spec_l08Dst; rw [d4]; rfl
  have s1 := (usumIS k hk P.2.2.2.2.1 P.2.2.2.1.2.2.2.2.1 P.2.2.2.1.2.2.2.2.2.1 (Nat.le_trans B.uo (by decide)) (Nat.le_trans B.ub (by decide)) B.uob B.ubb).2
  have s2 := usum_neg k hk P.2.2.2.2.1 P.2.2.2.1.2.2.2.2.1 P.2.2.2.1.2.2.2.2.2.1 (Nat.le_trans B.uo (by decide)) (Nat.le_trans B.ub (by decide)) B.uob B.ubb
  have s3 := (upByIS k hk P.2.2.2.2.1 P.2.2.2.1.2.2.2.2.1 P.2.2.2.1.2.2.2.2.2.1 (Nat.le_trans B.uo (by decide)) (Nat.le_trans B.ub (by decide)) B.uob B.ubb).2
  have s4 := (upBy_ok k hk P.2.2.2.2.1 P.2.2.2.1.2.2.2.2.1 P.2.2.2.1.2.2.2.2.2.1 (Nat.le_trans B.uo (by decide)) (Nat.le_trans B.ub (by decide)) B.uob B.ubb).2
  have lb : (sB (wS P.2.2.2.1 (by6 P))).length ≤ 1100000 := Nat.le_trans s4 (by decide)
  have hx : ∀ x ∈ sE (wS P.2.2.2.1 (by6 P)), x.2.1.length ≤ 1100000 := fun x hx => Nat.le_trans (B.sx x hx) (by decide)
  have p2 := sixByS k hk (wS P.2.2.2.1 (by6 P)) B.se hx lb
  have p3 := sixOS k hk (wS P.2.2.2.1 (by6 P)) hx lb
  have fl := sixBy_le (wS P.2.2.2.1 (by6 P))
  have pl := B.pd
  have q : decide (((sixBy (wS P.2.2.2.1 (by6 P))).length + P.2.2.2.2.2.1.length) * 1 ≤ 1099511627776) = true := decide_eq_true (by omega)
  have hl : (eB (e6 P)).length ≤ 1100000 := by
    show (sixBy (wS P.2.2.2.1 (by6 P)) ++ P.2.2.2.2.2.1).length ≤ 1100000
    rw [List.length_append]; omega
  have p4 := ethS (e6 P) hl
  have p5 := etherByS (e6 P) hl
  have g : pkGood P = ok6 P := by unfold pkGood; rw [d4, d6]; rfl
  have e : pkE P = e6 P := by unfold pkE; rw [d4]; rfl
  have gb : pkBy P = bif ok6 P then etherBy (e6 P) else [] := by unfold pkBy; rw [g, e]
  rw [gb]
  unfold ok6 in6 emp
  unfold e6 at p4 p5 ⊢
  unfold by6 at p2 p3 p4 p5 q ⊢
  unfold spec_PacketBytes spec_PacketBytes_j0 spec_PacketBytes_j1
  simp only [d4, d6, sr, ds, s1, s2, s3, Option.bind_some, cond_true, cond_false, bn, bnn, p2, p3, p4, p5, q, kgS _ 6 (.inr rfl), noFS]
  cases decide (((P.2.1.2.2.2.2.1.length : Nat) : Int) = 0)
  · rfl
  cases decide (((P.2.2.1.2.2.2.2.2.2.2.2.2.2.1.length : Nat) : Int) = 0)
  · rfl
  cases decide (((P.2.2.2.1.2.2.2.2.2.2.2.1.length : Nat) : Int) = 0)
  · rfl
  simp only [cond_true, Bool.true_and]
  cases upGood P.2.2.2.2.1 P.2.2.2.1.2.2.2.2.1 P.2.2.2.1.2.2.2.2.2.1
  · cases noF P.2.2.1 <;> cases decide (P.2.1.2.2.2.1 = 34525) <;> rfl
  simp only [cond_true, Bool.true_and]
  generalize upBy P.2.2.2.2.1 P.2.2.2.1.2.2.2.2.1 P.2.2.2.1.2.2.2.2.2.1 = L
  generalize ethB (wE P.2.1 (sixBy (wS P.2.2.2.1 L) ++ P.2.2.2.2.2.1)) = b5
  cases noF P.2.2.1
  · rfl
  cases decide (P.2.1.2.2.2.1 = 34525)
  · rfl
  cases sixB (wS P.2.2.2.1 L)
  · rfl
  cases decide (P.2.2.2.2.1.1 = kindG P.2.2.2.1.2.2.2.1 6)
  · rfl
  cases b5 <;> rfl
theorem pkByS : spec_PacketBytes k P = some ((pkBy P, ()), ()) := by
  by_cases h4 : P.1 = 4
  · exact pkByS4 k hk P B h4
  by_cases h6 : P.1 = 6
  · exact pkByS6 k hk P B h6
  have d4 : decide (P.1 = 4) = false := decide_eq_false h4
  have d6 : decide (P.1 = 6) = false := decide_eq_false h6
  have g : pkGood P = false := by unfold pkGood; rw [d4, d6]; rfl
  have gb : pkBy P = [] := by unfold pkBy; rw [g]; rfl
  rw [gb]
  unfold spec_PacketBytes spec_PacketBytes_j0 spec_PacketBytes_j1
  simp only [d4, d6, bn, bnn, cond_false]
end
end Go.Tw
