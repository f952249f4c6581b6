/- Facts on mirrors. -/
import Derived.Test.YtmnfadocihfiaaaGreatPs7
import Derived.Test.YtmnfadocihfiaaaGreatPq8
set_option linter.all false
set_option maxRecDepth 100000
set_option maxHeartbeats 4000000
namespace Go.Tw
open Go Go.RowKit
theorem cut {α : Type} (d : List α) (i m j : Nat) (h : i + m = j) : (d.drop i).take m ++ d.drop j = d.drop i := by
  subst h
  rw [← List.drop_drop]
  exact List.take_append_drop m (d.drop i)
theorem pc {d : List Int} (hb : bytesP d) (i m : Nat) (h : i + m ≤ d.length) : putB (beB ((d.drop i).take m)) m = (d.drop i).take m := by
  have hl : ((d.drop i).take m).length = m := by rw [List.length_take, List.length_drop]; omega
  have := put_beB ((d.drop i).take m) (sub_bytes hb i m)
  rw [hl] at this
  exact this
theorem tk1 {d : List Int} (i : Nat) (h : i < d.length) : (d.drop i).take 1 = [d.getD i 0] := by
  rw [drop_at d 0 i h]; rfl
theorem tk2 {d : List Int} (i : Nat) (h : i + 1 < d.length) : (d.drop i).take 2 = [d.getD i 0, d.getD (i + 1) 0] := by
  rw [drop_at d 0 i (by omega), drop_at d 0 (i + 1) h]; rfl
theorem addr4_back {l : List Int} (hb : bytesP l) (hl : l.length = 4) : addrB (addrOf l).1 = true ∧ (addrOf l).1.1 = 4 ∧ addrBy (addrOf l).1 = l := by
  have e : addrOf l = ((4, 0, 0, 0, beB l, ()), true) := by unfold addrOf; rw [hl]; rfl
  have r := beB_rng l hb
  rw [hl] at r
  have r2 : beB l < 4294967296 := r.2
  have ok : addrB (addrOf l).1 = true := by
    rw [e]; unfold addrB longB
    simp only [decide_true, cond_true, Bool.true_and, Bool.and_eq_true, decide_eq_true_eq]
    omega
  refine ⟨ok, by rw [e], ?_⟩
  unfold addrBy
  rw [ok, e]
  have := put_beB l hb
  rw [hl] at this
  exact this
theorem addr16_back {l : List Int} (hb : bytesP l) (hl : l.length = 16) : addrB (addrOf l).1 = true ∧ (addrOf l).1.1 = 6 ∧ addrBy (addrOf l).1 = l := by
  have e : addrOf l = ((6, beB (l.take 4), beB ((l.drop 4).take 4), beB ((l.drop 8).take 4), beB ((l.drop 12).take 4), ()), true) := by unfold addrOf; rw [hl]; rfl
  have r0 := be_four hb 0
  have r1 := be_four hb 4
  have r2 := be_four hb 8
  have r3 := be_four hb 12
  rw [List.drop_zero] at r0
  have d64 : decide ((6 : Int) = 4) = false := rfl
  have ok : addrB (addrOf l).1 = true := by
    rw [e]; unfold addrB longB
    simp only [d64, decide_true, cond_false, Bool.true_and, Bool.and_eq_true, decide_eq_true_eq]
    omega
  refine ⟨ok, by rw [e], ?_⟩
  unfold addrBy
  rw [ok, e]
  simp only [d64, cond_true, cond_false]
  have p0 := pc hb 0 4 (by omega)
  rw [List.drop_zero] at p0
  rw [p0, pc hb 4 4 (by omega), pc hb 8 4 (by omega), pc hb 12 4 (by omega)]
  have t : (l.drop 12).take 4 = l.drop 12 := List.take_of_length_le (by rw [List.length_drop]; omega)
  rw [t, List.append_assoc, List.append_assoc, cut l 8 4 12 rfl, cut l 4 4 8 rfl]
  exact List.take_append_drop 4 l
theorem eth_back {d : List Int} (hb : bytesP d) (h : (etherRd d).2 = 0) : ethB (etherRd d).1 = true ∧ etherBy (etherRd d).1 = d := by
  unfold etherRd at h ⊢
  by_cases h1 : 1600 < d.length
  · rw [bif_t (decide_eq_true h1)] at h; cases h
  rw [bif_f (decide_eq_false h1)] at h ⊢
  by_cases h2 : d.length < 14
  · rw [bif_t (decide_eq_true h2)] at h; cases h
  rw [bif_f (decide_eq_false h2)] at h ⊢
  have s0 : 0 ≤ beB ((d.drop 0).take 6) ∧ beB ((d.drop 0).take 6) ≤ 281474976710655 := by
    have := be_sub hb 0 6
    exact ⟨this.1, by have := this.2; simp at this; omega⟩
  have s6 : 0 ≤ beB ((d.drop 6).take 6) ∧ beB ((d.drop 6).take 6) ≤ 281474976710655 := by
    have := be_sub hb 6 6
    exact ⟨this.1, by have := this.2; simp at this; omega⟩
  by_cases h3 : beB ((d.drop 12).take 2) = 33024
  · rw [bif_t (decide_eq_true h3)] at h ⊢
    by_cases h4 : d.length < 18
    · rw [bif_t (decide_eq_true h4)] at h; cases h
    rw [bif_f (decide_eq_false h4)] at h ⊢
    cases hk : (decide (1536 ≤ beB ((d.drop 16).take 2)) && !decide (beB ((d.drop 16).take 2) = 33024))
    · rw [hk] at h; cases h
    simp only [cond_true]
    have hk' := hk
    simp only [Bool.and_eq_true, decide_eq_true_eq, Bool.not_eq_true', decide_eq_false_iff_not] at hk'
    have t14 := be_two hb 14
    have t16 := be_two hb 16
    have ok : ethB (beB ((d.drop 0).take 6), beB ((d.drop 6).take 6), beB ((d.drop 14).take 2), beB ((d.drop 16).take 2), d.drop 18, ()) = true := by
      unfold ethB hdE eB
      rw [decide_eq_true t14.1]
      simp only [cond_true, Bool.and_eq_true, inB_iff, decide_eq_true_eq, Bool.not_eq_true', decide_eq_false_iff_not, List.length_drop]
      omega
    refine ⟨ok, ?_⟩
    unfold etherBy
    rw [ok, decide_eq_true t14.1]
    simp only [cond_true]
    rw [pc hb 0 6 (by omega), pc hb 6 6 (by omega), ← h3, pc hb 12 2 (by omega), pc hb 14 2 (by omega), pc hb 16 2 (by omega), List.append_assoc, cut d 16 2 18 rfl, cut d 14 2 16 rfl, cut d 12 2 14 rfl, cut d 6 6 12 rfl, cut d 0 6 6 rfl]
    rfl
  · rw [bif_f (decide_eq_false h3)] at h ⊢
    by_cases hk : 1536 ≤ beB ((d.drop 12).take 2)
    case neg => rw [bif_f (decide_eq_false hk)] at h; cases h
    rw [bif_t (decide_eq_true hk)]
    have t12 := be_two hb 12
    have dn : decide ((0 : Int) ≤ -1) = false := rfl
    have ok : ethB (beB ((d.drop 0).take 6), beB ((d.drop 6).take 6), -1, beB ((d.drop 12).take 2), d.drop 14, ()) = true := by
      unfold ethB hdE eB
      rw [dn]
      simp only [cond_false, Bool.and_eq_true, inB_iff, decide_eq_true_eq, Bool.not_eq_true', decide_eq_false_iff_not, List.length_drop]
      omega
    refine ⟨ok, ?_⟩
    unfold etherBy
    rw [ok, dn]
    simp only [cond_true, cond_false, List.nil_append]
    rw [pc hb 0 6 (by omega), pc hb 6 6 (by omega), pc hb 12 2 (by omega), cut d 12 2 14 rfl, cut d 6 6 12 rfl, cut d 0 6 6 rfl]
    rfl
theorem four_back {d : List Int} (hb : bytesP d) (h : (fourRd d).2.2 = 0) : fourB (fourRd d).1 = true ∧ fBy (fourRd d).1 ++ (fourRd d).2.1 = d := by
  have hf := (fourA d hb).k h
  refine ⟨hf, ?_⟩
  unfold fBy
  rw [hf]
  unfold fourRd at h hf ⊢
  by_cases h1 : 1600 < d.length
  · rw [bif_t (decide_eq_true h1)] at h; cases h
  rw [bif_f (decide_eq_false h1)] at h hf ⊢
  by_cases h2 : d.length < 20
  · rw [bif_t (decide_eq_true h2)] at h; cases h
  rw [bif_f (decide_eq_false h2)] at h hf ⊢
  by_cases h3 : b0 d / 16 = 4
  case neg => rw [bif_f (decide_eq_false h3)] at h; cases h
  rw [bif_t (decide_eq_true h3)] at h hf ⊢
  cases h4 : (decide (fhl d < 20) || decide (d.length < fhl d))
  case true => rw [h4] at h; cases h
  cases h5 : (decide (ftot d < fhl d) || (decide (1500 < ftot d) || decide (d.length < ftot d)))
  case true => rw [h4, h5] at h; cases h
  rw [h4, h5] at h hf
  simp only [cond_false] at h hf ⊢
  simp only [Bool.or_eq_false_iff, decide_eq_false_iff_not] at h4 h5
  by_cases h6 : beB ((d.drop 10).take 2) = hsum (fOf d (fhl d) (ftot d))
  case neg => rw [bif_f (decide_eq_false h6)] at h; cases h
  rw [bif_t (decide_eq_true h6)] at hf ⊢
  simp only [cond_true]
  rw [← h6]
  have g0 := hb _ (getD_mem d 0 0 (by omega))
  have g1 := hb _ (getD_mem d 0 1 (by omega))
  have g8 := hb _ (getD_mem d 0 8 (by omega))
  have g9 := hb _ (getD_mem d 0 9 (by omega))
  have t2 := be_two hb 2
  have t6 := be_two hb 6
  have lo : ((d.drop 20).take (fhl d - 20)).length = fhl d - 20 := by rw [List.length_take, List.length_drop]; omega
  have lb : ((d.drop (fhl d)).take (ftot d - fhl d)).length = ftot d - fhl d := by rw [List.length_take, List.length_drop]; omega
  have hh : ((fhl d : Nat) : Int) = 4 * (d.getD 0 0 % 16) := by unfold fhl b0; omega
  have ht : ((ftot d : Nat) : Int) = beB ((d.drop 2).take 2) := by unfold ftot; omega
  have h3' : d.getD 0 0 / 16 = 4 := h3
  have a12 := addr4_back (l := (d.drop 12).take 4) (sub_bytes hb 12 4) (by rw [List.length_take, List.length_drop]; omega)
  have a16 := addr4_back (l := (d.drop 16).take 4) (sub_bytes hb 16 4) (by rw [List.length_take, List.length_drop]; omega)
  have x0 : (69 + ((((d.drop 20).take (fhl d - 20)).length : Nat) : Int) / 4) % 256 = d.getD 0 0 := by rw [lo]; omega
  have x1 : (4 * (d.getD 1 0 / 4) + d.getD 1 0 % 4) % 256 = d.getD 1 0 := by omega
  have x2 : 20 + ((((d.drop 20).take (fhl d - 20)).length : Nat) : Int) + ((((d.drop (fhl d)).take (ftot d - fhl d)).length : Nat) : Int) = beB ((d.drop 2).take 2) := by rw [lo, lb]; omega
  have x3 : 8192 * (beB ((d.drop 6).take 2) / 8192) + beB ((d.drop 6).take 2) % 8192 = beB ((d.drop 6).take 2) := by omega
  have x8 : d.getD 8 0 % 256 = d.getD 8 0 := by omega
  have x9 : d.getD 9 0 % 256 = d.getD 9 0 := by omega
  show (hdBc (beB ((d.drop 10).take 2)) (fOf d (fhl d) (ftot d)) ++ (d.drop (fhl d)).take (ftot d - fhl d)) ++ d.drop (ftot d) = d
  unfold hdBc fOf
  simp only [x0, x1, x2, x3, x8, x9, a12.2.2, a16.2.2]
  rw [pc hb 2 2 (by omega), pc hb 4 2 (by omega), pc hb 6 2 (by omega), pc hb 10 2 (by omega), ← tk2 (d := d) 0 (by omega), ← tk2 (d := d) 8 (by omega)]
  simp only [List.append_assoc]
  rw [cut d (fhl d) (ftot d - fhl d) (ftot d) (by omega), cut d 20 (fhl d - 20) (fhl d) (by omega), cut d 16 4 20 rfl, cut d 12 4 16 rfl, cut d 10 2 12 rfl, cut d 8 2 10 rfl, cut d 6 2 8 rfl, cut d 4 2 6 rfl, cut d 2 2 4 rfl, cut d 0 2 2 rfl]
  rfl
end Go.Tw
