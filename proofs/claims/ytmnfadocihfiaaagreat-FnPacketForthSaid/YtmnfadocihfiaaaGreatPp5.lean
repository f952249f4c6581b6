/- Facts on mirrors. -/
import Derived.Test.YtmnfadocihfiaaaGreatPp4
set_option linter.all false
set_option maxRecDepth 100000
set_option maxHeartbeats 1100000
namespace Go.Tw
open Go Go.RowKit
theorem fOf_lens (d : List Int) (hd : d.length ≤ 100000) (hl tot : Nat) : (fO (fOf d hl tot)).length ≤ 1100000 ∧ (fB (fOf d hl tot)).length ≤ 1100000 := by
  constructor
  · show ((d.drop 20).take (hl - 20)).length ≤ 1100000
    rw [List.length_take, List.length_drop]; omega
  · show ((d.drop hl).take (tot - hl)).length ≤ 1100000
    rw [List.length_take, List.length_drop]; omega
theorem fOf_bytes {d : List Int} (hb : bytesP d) (hl tot : Nat) : bytesP (fO (fOf d hl tot)) := sub_bytes hb 20 (hl - 20)
theorem fourRdI (k : Nat) (hk : MM < k) (d : List Int) (hb : bytesP d) : impl_FourRead k d = some (((fourRd d).1, (fourRd d).2.1, (fourRd d).2.2, ()), ()) := by
  unfold impl_FourRead impl_FourRead_j1 impl_FourRead_j0 fourRd
  by_cases h1 : 1600 < d.length
  · rw [bif_t (decide_eq_true (by omega)), bif_t (decide_eq_true h1)]
  rw [bif_f (decide_eq_false (by omega)), bif_f (decide_eq_false h1)]
  by_cases h2 : d.length < 20
  · rw [bif_t (decide_eq_true (by omega)), bif_t (decide_eq_true h2)]
  rw [bif_f (decide_eq_false (by omega)), bif_f (decide_eq_false h2)]
  have r0 : 0 ≤ d.getD 0 0 ∧ d.getD 0 0 ≤ 255 := hb _ (getD_mem d 0 0 (by omega))
  have c0 : decide ((0 : Int) < ((d.length : Nat) : Int)) = true := decide_eq_true (by omega)
  have c0' : decide ((0 : Nat) < d.length) = true := decide_eq_true (by omega)
  have c4 : decide ((4 : Int) ≤ ((d.length : Nat) : Int)) = true := decide_eq_true (by omega)
  have c12 : decide ((12 : Int) ≤ ((d.length : Nat) : Int)) = true := decide_eq_true (by omega)
  have cll : decide (((d.length : Nat) : Int) ≤ ((d.length : Nat) : Int)) = true := decide_eq_true (Int.le_refl _)
  have e16 : Int.fdiv (d.getD 0 0) (2 ^ min (Int.toNat 4) (IntKind.bits .u8)) = b0 d / 16 := by
    show Int.fdiv (d.getD 0 0) 16 = d.getD 0 0 / 16
    exact Int.fdiv_eq_ediv_of_nonneg _ (by decide)
  have ehl : IntKind.wrap .i64 (4 * IntKind.wrap .i64 (Int.tmod (d.getD 0 0) 16)) = ((fhl d : Nat) : Int) := by
    rw [Int.tmod_eq_emod_of_nonneg r0.1, w64 (n := d.getD 0 0 % 16) (by omega), w64 (by omega)]
    unfold fhl b0; omega
  have r2 := be_two hb 2
  have etot : beB ((d.drop 2).take 2) = ((ftot d : Nat) : Int) := by unfold ftot; omega
  simp only [c0, c0', c4, cond_true, e16, ehl, beOf_eq k hk _ (sub_bytes hb 2 2) (by rw [List.length_take]; omega), Option.bind_some, etot, bn]
  by_cases h3 : b0 d / 16 = 4
  case neg => rw [decide_eq_false h3]; rfl
  rw [decide_eq_true h3]
  simp only [cond_true]
  by_cases h4 : fhl d < 20
  · rw [decide_eq_true (show ((fhl d : Nat) : Int) < 20 by omega), decide_eq_true h4]; rfl
  rw [decide_eq_false (show ¬ ((fhl d : Nat) : Int) < 20 by omega), decide_eq_false h4]
  by_cases h5 : d.length < fhl d
  · rw [decide_eq_true (show ((d.length : Nat) : Int) < ((fhl d : Nat) : Int) by omega), decide_eq_true h5]; rfl
  rw [decide_eq_false (show ¬ ((d.length : Nat) : Int) < ((fhl d : Nat) : Int) by omega), decide_eq_false h5]
  by_cases h6 : ftot d < fhl d
  · rw [decide_eq_true (show ((ftot d : Nat) : Int) < ((fhl d : Nat) : Int) by omega), decide_eq_true h6]; rfl
  rw [decide_eq_false (show ¬ ((ftot d : Nat) : Int) < ((fhl d : Nat) : Int) by omega), decide_eq_false h6]
  by_cases h7 : 1500 < ftot d
  · rw [decide_eq_true (show (1500 : Int) < ((ftot d : Nat) : Int) by omega), decide_eq_true h7]; rfl
  rw [decide_eq_false (show ¬ (1500 : Int) < ((ftot d : Nat) : Int) by omega), decide_eq_false h7]
  by_cases h8 : d.length < ftot d
  · rw [decide_eq_true (show ((d.length : Nat) : Int) < ((ftot d : Nat) : Int) by omega), decide_eq_true h8]; rfl
  rw [decide_eq_false (show ¬ ((d.length : Nat) : Int) < ((ftot d : Nat) : Int) by omega), decide_eq_false h8]
  have ct0 : decide ((0 : Int) ≤ ((ftot d : Nat) : Int)) = true := decide_eq_true (by omega)
  have ctl : decide (((ftot d : Nat) : Int) ≤ ((d.length : Nat) : Int)) = true := decide_eq_true (by omega)
  obtain ⟨l1, l2⟩ := fOf_lens d (by omega) (fhl d) (ftot d)
  have hF := fourOfI k hk d hb (by omega) (fhl d) (ftot d) (by omega) (by omega) (by omega)
  have hc := cloneI (d.drop (ftot d)) (by rw [List.length_drop]; omega)
  simp only [ct0, ctl, c12, cll, Bool.and_self, cond_true, cond_false, Int.toNat_natCast, hF, Option.bind_some, beOf_eq k hk _ (sub_bytes hb 10 2) (by rw [List.length_take]; omega), hsumI k hk _ l1 l2 (fOf_bytes hb _ _), take_all, hc, Bool.or_self]
  cases decide (beB ((d.drop 10).take 2) = hsum (fOf d (fhl d) (ftot d))) <;> rfl
theorem fourRdS (k : Nat) (hk : MM < k) (d : List Int) (hb : bytesP d) : spec_FourRead k d = some (((fourRd d).1, (fourRd d).2.1, (fourRd d).2.2, ()), ()) := by
  unfold spec_FourRead spec_FourRead_j1 spec_FourRead_j0 fourRd
  by_cases h1 : 1600 < d.length
  · rw [bif_t (decide_eq_true (by omega)), bif_t (decide_eq_true h1)]
  rw [bif_f (decide_eq_false (by omega)), bif_f (decide_eq_false h1)]
  by_cases h2 : d.length < 20
  · rw [bif_t (decide_eq_true (by omega)), bif_t (decide_eq_true h2)]
  rw [bif_f (decide_eq_false (by omega)), bif_f (decide_eq_false h2)]
  have r0 : 0 ≤ d.getD 0 0 ∧ d.getD 0 0 ≤ 255 := hb _ (getD_mem d 0 0 (by omega))
  have c0 : decide ((0 : Int) < ((d.length : Nat) : Int)) = true := decide_eq_true (by omega)
  have c0' : decide ((0 : Nat) < d.length) = true := decide_eq_true (by omega)
  have c1 : decide ((1 : Int) < ((d.length : Nat) : Int)) = true := decide_eq_true (by omega)
  have c1' : decide ((1 : Nat) < d.length) = true := decide_eq_true (by omega)
  have c8 : decide ((8 : Int) < ((d.length : Nat) : Int)) = true := decide_eq_true (by omega)
  have c8' : decide ((8 : Nat) < d.length) = true := decide_eq_true (by omega)
  have c9 : decide ((9 : Int) < ((d.length : Nat) : Int)) = true := decide_eq_true (by omega)
  have c9' : decide ((9 : Nat) < d.length) = true := decide_eq_true (by omega)
  have c16 : decide ((16 : Int) ≤ ((d.length : Nat) : Int)) = true := decide_eq_true (by omega)
  have c20 : decide ((20 : Int) ≤ ((d.length : Nat) : Int)) = true := decide_eq_true (by omega)
  have cll : decide (((d.length : Nat) : Int) ≤ ((d.length : Nat) : Int)) = true := decide_eq_true (Int.le_refl _)
  have e16 : IntKind.wrap .u8 (Int.tdiv (d.getD 0 0) 16) = b0 d / 16 := by
    rw [Int.tdiv_eq_ediv_of_nonneg r0.1, wu8]; unfold b0; omega
  have ehl : IntKind.wrap .i64 (4 * IntKind.wrap .i64 (Int.tmod (d.getD 0 0) 16)) = ((fhl d : Nat) : Int) := by
    rw [Int.tmod_eq_emod_of_nonneg r0.1, w64 (n := d.getD 0 0 % 16) (by omega), w64 (by omega)]
    unfold fhl b0; omega
  have r2 := be_two hb 2
  have etot : beB ((d.drop 2).take 2) = ((ftot d : Nat) : Int) := by unfold ftot; omega
  have f2 : spec_Be16 d (2:Int) = _ := be16S hb (by omega) 2 (by omega)
  have f4 : spec_Be16 d (4:Int) = _ := be16S hb (by omega) 4 (by omega)
  have f6 : spec_Be16 d (6:Int) = _ := be16S hb (by omega) 6 (by omega)
  have f10 : spec_Be16 d (10:Int) = _ := be16S hb (by omega) 10 (by omega)
  simp only [c0, c0', cond_true, e16, ehl, f2, Option.bind_some, etot, bn]
  by_cases h3 : b0 d / 16 = 4
  case neg => rw [decide_eq_false h3]; rfl
  rw [decide_eq_true h3]
  simp only [cond_true]
  by_cases h4 : fhl d < 20
  · rw [decide_eq_true (show ((fhl d : Nat) : Int) < 20 by omega), decide_eq_true h4]; rfl
  rw [decide_eq_false (show ¬ ((fhl d : Nat) : Int) < 20 by omega), decide_eq_false h4]
  by_cases h5 : d.length < fhl d
  · rw [decide_eq_true (show ((d.length : Nat) : Int) < ((fhl d : Nat) : Int) by omega), decide_eq_true h5]; rfl
  rw [decide_eq_false (show ¬ ((d.length : Nat) : Int) < ((fhl d : Nat) : Int) by omega), decide_eq_false h5]
  by_cases h6 : ftot d < fhl d
  · rw [decide_eq_true (show ((ftot d : Nat) : Int) < ((fhl d : Nat) : Int) by omega), decide_eq_true h6]; rfl
  rw [decide_eq_false (show ¬ ((ftot d : Nat) : Int) < ((fhl d : Nat) : Int) by omega), decide_eq_false h6]
  by_cases h7 : 1500 < ftot d
  · rw [decide_eq_true (show (1500 : Int) < ((ftot d : Nat) : Int) by omega), decide_eq_true h7]; rfl
  rw [decide_eq_false (show ¬ (1500 : Int) < ((ftot d : Nat) : Int) by omega), decide_eq_false h7]
  by_cases h8 : d.length < ftot d
  · rw [decide_eq_true (show ((d.length : Nat) : Int) < ((ftot d : Nat) : Int) by omega), decide_eq_true h8]; rfl
  rw [decide_eq_false (show ¬ ((d.length : Nat) : Int) < ((ftot d : Nat) : Int) by omega), decide_eq_false h8]
  have ct0 : decide ((0 : Int) ≤ ((ftot d : Nat) : Int)) = true := decide_eq_true (by omega)
  have ctl : decide (((ftot d : Nat) : Int) ≤ ((d.length : Nat) : Int)) = true := decide_eq_true (by omega)
  have ch20 : decide ((20 : Int) ≤ ((fhl d : Nat) : Int)) = true := decide_eq_true (by omega)
  have ch0 : decide ((0 : Int) ≤ ((fhl d : Nat) : Int)) = true := decide_eq_true (by omega)
  have chl : decide (((fhl d : Nat) : Int) ≤ ((d.length : Nat) : Int)) = true := decide_eq_true (by omega)
  have cht : decide (((fhl d : Nat) : Int) ≤ ((ftot d : Nat) : Int)) = true := decide_eq_true (by omega)
  obtain ⟨l1, l2⟩ := fOf_lens d (by omega) (fhl d) (ftot d)
  have r1 := hb _ (getD_mem d 0 1 (by omega))
  have r8 := hb _ (getD_mem d 0 8 (by omega))
  have r9 := hb _ (getD_mem d 0 9 (by omega))
  have r6 := be_two hb 6
  have q1 : IntKind.wrap .i64 (Int.tdiv (IntKind.wrap .i64 (d.getD 1 0)) 4) = d.getD 1 0 / 4 := by rw [w64 (n := d.getD 1 0) (by omega), Int.tdiv_eq_ediv_of_nonneg (by omega), w64 (by omega)]
  have q2 : Int.tmod (IntKind.wrap .i64 (d.getD 1 0)) 4 = d.getD 1 0 % 4 := by rw [w64 (n := d.getD 1 0) (by omega), Int.tmod_eq_emod_of_nonneg (by omega)]
  have q3 : IntKind.wrap .i64 (Int.tdiv (beB ((d.drop 6).take 2)) 8192) = beB ((d.drop 6).take 2) / 8192 := by rw [Int.tdiv_eq_ediv_of_nonneg r6.1, w64 (by omega)]
  have q4 : Int.tmod (beB ((d.drop 6).take 2)) 8192 = beB ((d.drop 6).take 2) % 8192 := Int.tmod_eq_emod_of_nonneg r6.1
  have m1 : decide ((0 + ((d.drop 20).take (fhl d - 20)).length) * 1 ≤ 1099511627776) = true := decide_eq_true (by rw [List.length_take, List.length_drop]; omega)
  have m2 : decide ((0 + ((d.drop (fhl d)).take (ftot d - fhl d)).length) * 1 ≤ 1099511627776) = true := decide_eq_true (by rw [List.length_take, List.length_drop]; omega)
  have m3 : decide ((0 + (d.drop (ftot d)).length) * 1 ≤ 1099511627776) = true := decide_eq_true (by rw [List.length_drop]; omega)
  have hs : spec_HeadSum k (fOf d (fhl d) (ftot d)) = _ := hsumS k hk _ l1 l2 (fOf_bytes hb _ _)
  unfold fOf at hs
  simp only [c1, c1', c8, c8', c9, c9', c16, c20, ct0, ctl, ch20, ch0, chl, cht, cll, m1, m2, m3, Bool.and_self, cond_true, cond_false, Int.toNat_natCast, f4, f6, f10, Option.bind_some, q1, q2, q3, q4, take_all, addrOfS k hk _ (sub_bytes hb 12 4), addrOfS k hk _ (sub_bytes hb 16 4),
    w64 (n := d.getD 8 0) ⟨by omega, by omega⟩, w64 (n := d.getD 9 0) ⟨by omega, by omega⟩, hs, Bool.or_self]
  unfold fOf
  cases decide (beB ((d.drop 10).take 2) = hsum _) <;> rfl
end Go.Tw
