/- Facts on mirrors. -/
import Derived.Test.YtmnfadocihfiaaaGreatPn2
set_option linter.all false
set_option maxRecDepth 100000
set_option maxHeartbeats 1100000
namespace Go.Tw
open Go Go.RowKit
theorem be16S {d : List Int} (hb : bytesP d) (hd : d.length ≤ 100000) (n : Nat) (hn : n + 2 ≤ d.length) : spec_Be16 d (n : Int) = some ((beB ((d.drop n).take 2), true, ()), ()) := by
  have e1 : n < d.length := by omega
  have e2 : n + 1 < d.length := by omega
  have b1 := hb _ (getD_mem d 0 n e1)
  have b2 := hb _ (getD_mem d 0 (n + 1) e2)
  unfold spec_Be16
  have w1 : IntKind.wrap .i64 (((d.length : Nat) : Int) - 2) = ((d.length : Nat) : Int) - 2 := w64 (by omega)
  have w2 : IntKind.wrap .i64 ((n : Int) + 1) = ((n + 1 : Nat) : Int) := w64 (by omega)
  rw [w1, w2, w64 (n := d.getD (n : Int).toNat 0) (by rw [Int.toNat_natCast]; omega), w64 (n := d.getD ((n + 1 : Nat) : Int).toNat 0) (by rw [Int.toNat_natCast]; omega)]
  rw [Int.toNat_natCast, Int.toNat_natCast]
  rw [w64 (n := 256 * d.getD n 0) (by omega), w64 (n := 256 * d.getD n 0 + d.getD (n + 1) 0) (by omega)]
  rw [bif_t (by simp), bif_f (decide_eq_false (by omega)), bif_t (by simp; omega), bif_t (decide_eq_true e1), bif_t (by simp; omega), bif_t (decide_eq_true e2)]
  have e : (d.drop n).take 2 = [d.getD n 0, d.getD (n + 1) 0] := by
    rw [getD_at d 0 n e1, getD_at d 0 (n + 1) e2, List.drop_eq_getElem_cons e1, List.drop_eq_getElem_cons e2]; rfl
  rw [e]
  simp only [beB, List.foldl_cons, List.foldl_nil]
  rw [show (0 * 256 + d.getD n 0) * 256 + d.getD (n + 1) 0 = 256 * d.getD n 0 + d.getD (n + 1) 0 by omega]
theorem cloneI (x : List Int) (h : x.length ≤ 1100000) : slices_Clone_byte_byte x = some ((x, ()), ()) := by
  unfold slices_Clone_byte_byte
  exact bif_t (decide_eq_true (by omega))
theorem kindI (x : Int) : impl_isKind x = some ((decide (1536 ≤ x) && decide (x ≤ 65535) && !decide (x = 33024), ()), ()) := by
  unfold impl_isKind
  rw [within_eq, Option.bind_some]
  cases decide (1536 ≤ x) && decide (x ≤ 65535) <;> rfl
theorem take_all {α : Type} (l : List α) (n : Nat) : List.take (l.length - n) (l.drop n) = l.drop n := List.take_of_length_le (by rw [List.length_drop]; exact Nat.le_refl _)
theorem be_sub {d : List Int} (hb : bytesP d) (i m : Nat) : 0 ≤ beB ((d.drop i).take m) ∧ beB ((d.drop i).take m) < ((256 ^ m : Nat) : Int) := by
  have h := beB_rng ((d.drop i).take m) (sub_bytes hb i m)
  refine ⟨h.1, Int.lt_of_lt_of_le h.2 ?_⟩
  exact Int.ofNat_le.2 (Nat.pow_le_pow_right (by omega) (by rw [List.length_take]; exact Nat.min_le_left _ _))
theorem be_two {d : List Int} (hb : bytesP d) (i : Nat) : 0 ≤ beB ((d.drop i).take 2) ∧ beB ((d.drop i).take 2) ≤ 65535 := by
  have := be_sub hb i 2
  exact ⟨this.1, by have := this.2; simp at this; omega⟩
theorem be_four {d : List Int} (hb : bytesP d) (i : Nat) : 0 ≤ beB ((d.drop i).take 4) ∧ beB ((d.drop i).take 4) ≤ 4294967295 := by
  have := be_sub hb i 4
  exact ⟨this.1, by have := this.2; simp at this; omega⟩
theorem be_six {d : List Int} (hd : 14 ≤ d.length) (i : Nat) (hi : i + 6 ≤ d.length) : beB ((d.drop i).take 6) = beB ((d.drop i).take 2) * 4294967296 + beB ((d.drop (i + 2)).take 4) := by
  have e : (d.drop i).take 6 = (d.drop i).take 2 ++ (d.drop (i + 2)).take 4 := by
    rw [show (6 : Nat) = 2 + 4 from rfl, List.take_add, List.drop_drop]
  have l4 : ((d.drop (i + 2)).take 4).length = 4 := by rw [List.length_take, List.length_drop]; omega
  rw [e, beB_app, l4]
  rfl
def etherRd (d : List Int) : D_Ether × Int :=
  bif decide (1600 < d.length) then (zzE, 1) else bif decide (d.length < 14) then (zzE, 2) else
  bif decide (beB ((d.drop 12).take 2) = 33024) then (bif decide (d.length < 18) then (zzE, 3) else
    bif decide (1536 ≤ beB ((d.drop 16).take 2)) && !decide (beB ((d.drop 16).take 2) = 33024) then ((beB ((d.drop 0).take 6), beB ((d.drop 6).take 6), beB ((d.drop 14).take 2), beB ((d.drop 16).take 2), d.drop 18, ()), 0) else (zzE, 4))
  else bif decide (1536 ≤ beB ((d.drop 12).take 2)) then ((beB ((d.drop 0).take 6), beB ((d.drop 6).take 6), -1, beB ((d.drop 12).take 2), d.drop 14, ()), 0) else (zzE, 4)
theorem etherI (k : Nat) (hk : MM < k) (d : List Int) (hb : bytesP d) : impl_EtherRead k d = some (((etherRd d).1, (etherRd d).2, ()), ()) := by
  unfold impl_EtherRead etherRd
  by_cases h1 : 1600 < d.length
  · rw [bif_t (decide_eq_true (by omega)), bif_t (decide_eq_true h1)]
  rw [bif_f (decide_eq_false (by omega)), bif_f (decide_eq_false h1)]
  by_cases h2 : d.length < 14
  · rw [bif_t (decide_eq_true (by omega)), bif_t (decide_eq_true h2)]
  rw [bif_f (decide_eq_false (by omega)), bif_f (decide_eq_false h2)]
  have c6 : decide ((6 : Int) ≤ ((d.length : Nat) : Int)) = true := decide_eq_true (by omega)
  have c12 : decide ((12 : Int) ≤ ((d.length : Nat) : Int)) = true := decide_eq_true (by omega)
  have c14 : decide ((14 : Int) ≤ ((d.length : Nat) : Int)) = true := decide_eq_true (by omega)
  have cll : decide (((d.length : Nat) : Int) ≤ ((d.length : Nat) : Int)) = true := decide_eq_true (Int.le_refl _)
  have s2 := fun i => sub_bytes hb i 2
  have s6 := fun i => sub_bytes hb i 6
  have e0 : List.take 6 d = (d.drop 0).take 6 := rfl
  have q := be_two hb 12
  have q16 := be_two hb 16
  simp only [c6, c12, c14, cond_true, e0, beOf_eq k hk _ (s6 0) (by rw [List.length_take]; omega), beOf_eq k hk _ (s6 6) (by rw [List.length_take]; omega), beOf_eq k hk _ (s2 12) (by rw [List.length_take]; omega), beOf_eq k hk _ (s2 14) (by rw [List.length_take]; omega), beOf_eq k hk _ (s2 16) (by rw [List.length_take]; omega), Option.bind_some, kindI]
  rw [decide_eq_true q.2, decide_eq_true q16.2, Bool.and_true, Bool.and_true]
  by_cases h3 : beB ((d.drop 12).take 2) = 33024
  · rw [decide_eq_true h3]
    simp only [cond_true]
    by_cases h4 : d.length < 18
    · rw [decide_eq_true (show ((d.length : Nat) : Int) < 18 by omega), decide_eq_true h4]; rfl
    · rw [decide_eq_false (show ¬ ((d.length : Nat) : Int) < 18 by omega), decide_eq_false h4]
      have c16 : decide ((16 : Int) ≤ ((d.length : Nat) : Int)) = true := decide_eq_true (by omega)
      have c18 : decide ((18 : Int) ≤ ((d.length : Nat) : Int)) = true := decide_eq_true (by omega)
      simp only [c16, c18, cond_true, cond_false]
      cases decide (1536 ≤ beB ((d.drop 16).take 2)) && !decide (beB ((d.drop 16).take 2) = 33024)
      · rfl
      · unfold impl_headOf
        have c0 : decide ((0 : Int) ≤ beB ((d.drop 14).take 2)) = true := decide_eq_true (be_two hb 14).1
        have t18 : Int.toNat 18 = 18 := rfl
        have hc := cloneI (d.drop 18) (by rw [List.length_drop]; omega)
        simp only [Bool.not_true, cond_false, c0, cond_true, Option.bind_some, c18, cll, Bool.and_true, t18, take_all, hc]
        rfl
  · rw [decide_eq_false h3]
    simp only [cond_false, Bool.not_false, Bool.and_true]
    cases decide (1536 ≤ beB ((d.drop 12).take 2))
    · rfl
    · unfold impl_headOf
      have c0 : decide ((0 : Int) ≤ -1) = false := rfl
      have t14 : Int.toNat 14 = 14 := rfl
      have hc := cloneI (d.drop 14) (by rw [List.length_drop]; omega)
      simp only [Bool.not_true, cond_false, c0, cond_true, Option.bind_some, c14, cll, Bool.and_true, t14, take_all, hc]
      rfl
theorem etherS (k : Nat) (hk : MM < k) (d : List Int) (hb : bytesP d) : spec_EtherRead k d = some (((etherRd d).1, (etherRd d).2, ()), ()) := by
  unfold spec_EtherRead etherRd
  by_cases h1 : 1600 < d.length
  · rw [bif_t (decide_eq_true (by omega)), bif_t (decide_eq_true h1)]
  rw [bif_f (decide_eq_false (by omega)), bif_f (decide_eq_false h1)]
  by_cases h2 : d.length < 14
  · rw [bif_t (decide_eq_true (by omega)), bif_t (decide_eq_true h2)]
  rw [bif_f (decide_eq_false (by omega)), bif_f (decide_eq_false h2)]
  have b0 : spec_Be16 d (0:Int) = _ := be16S hb (by omega) 0 (by omega)
  have b6 : spec_Be16 d (6:Int) = _ := be16S hb (by omega) 6 (by omega)
  have b12 : spec_Be16 d (12:Int) = _ := be16S hb (by omega) 12 (by omega)
  have f2 : spec_Be32 k d (2:Int) = _ := be32S k hk d hb 2 (by omega) (by omega)
  have f8 : spec_Be32 k d (8:Int) = _ := be32S k hk d hb 8 (by omega) (by omega)
  have cll : decide (((d.length : Nat) : Int) ≤ ((d.length : Nat) : Int)) = true := decide_eq_true (Int.le_refl _)
  have c14 : decide ((14 : Int) ≤ ((d.length : Nat) : Int)) = true := decide_eq_true (by omega)
  have r0 := be_two hb 0
  have r6 := be_two hb 6
  have r2 := be_four hb 2
  have r8 := be_four hb 8
  have x0 := be_six (d := d) (by omega) 0 (by omega)
  have x6 := be_six (d := d) (by omega) 6 (by omega)
  have k0 : IntKind.wrap .i64 (IntKind.wrap .i64 (beB ((d.drop 0).take 2) * 4294967296) + beB ((d.drop 2).take 4)) = beB ((d.drop 0).take 6) := by
    rw [w64 (n := beB ((d.drop 0).take 2) * 4294967296) (by omega), w64 (by omega), x0]
  have k6 : IntKind.wrap .i64 (IntKind.wrap .i64 (beB ((d.drop 6).take 2) * 4294967296) + beB ((d.drop 8).take 4)) = beB ((d.drop 6).take 6) := by
    rw [w64 (n := beB ((d.drop 6).take 2) * 4294967296) (by omega), w64 (by omega), x6]
  have q := be_two hb 12
  have q16 := be_two hb 16
  simp only [b0, b6, b12, f2, f8, Option.bind_some, k0, k6]
  by_cases h3 : beB ((d.drop 12).take 2) = 33024
  · rw [decide_eq_true h3]
    simp only [cond_true]
    by_cases h4 : d.length < 18
    · rw [decide_eq_true (show ((d.length : Nat) : Int) < 18 by omega), decide_eq_true h4]; rfl
    · rw [decide_eq_false (show ¬ ((d.length : Nat) : Int) < 18 by omega), decide_eq_false h4]
      have b14 : spec_Be16 d (14:Int) = _ := be16S hb (by omega) 14 (by omega)
      have b16 : spec_Be16 d (16:Int) = _ := be16S hb (by omega) 16 (by omega)
      have c18 : decide ((18 : Int) ≤ ((d.length : Nat) : Int)) = true := decide_eq_true (by omega)
      have cL : decide ((0 + (d.drop 18).length) * 1 ≤ 1099511627776) = true := decide_eq_true (by rw [List.length_drop]; omega)
      simp only [b14, b16, c18, cll, cond_true, cond_false, Option.bind_some, take_all, cL, Bool.and_self]
      by_cases h5 : beB ((d.drop 16).take 2) < 1536
      · rw [decide_eq_true h5, decide_eq_false (show ¬ 1536 ≤ beB ((d.drop 16).take 2) by omega)]; rfl
      · rw [decide_eq_false h5, decide_eq_true (show 1536 ≤ beB ((d.drop 16).take 2) by omega)]
        cases decide (beB ((d.drop 16).take 2) = 33024) <;> rfl
  · rw [decide_eq_false h3]
    have cL : decide ((0 + (d.drop 14).length) * 1 ≤ 1099511627776) = true := decide_eq_true (by rw [List.length_drop]; omega)
    simp only [cond_false, c14, cll, take_all, cL, Bool.and_self, cond_true]
    by_cases h5 : beB ((d.drop 12).take 2) < 1536
    · rw [decide_eq_true h5, decide_eq_false (show ¬ 1536 ≤ beB ((d.drop 12).take 2) by omega)]; rfl
    · rw [decide_eq_false h5, decide_eq_true (show 1536 ≤ beB ((d.drop 12).take 2) by omega)]; rfl
end Go.Tw
