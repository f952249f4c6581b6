/- Facts on mirrors. -/
import Derived.Test.YtmnfadocihfiaaaGreatPq6
set_option linter.all false
set_option maxRecDepth 100000
set_option maxHeartbeats 8000000
namespace Go.Tw
open Go Go.RowKit
theorem upperI (k : Nat) (hk : MM < k) (d : List Int) (hb : bytesP d) (p : Int) (s t : D_Addr) : impl_UpperRead k d p s t = some (((upRd d p s t).1, (upRd d p s t).2, ()), ()) := by
  by_cases hl : d.length ≤ 1500
  case neg =>
    unfold impl_UpperRead impl_UpperRead_j2 impl_UpperRead_j3 impl_UpperRead_j0 impl_UpperRead_j1 upRd
    rw [bif_t (decide_eq_true (by omega)), bif_t (decide_eq_true (by omega))]
  cases hs : bothB s t
  · unfold impl_UpperRead impl_UpperRead_j2 impl_UpperRead_j3 impl_UpperRead_j0 impl_UpperRead_j1 upRd
    rw [bif_f (decide_eq_false (by omega)), bif_f (decide_eq_false (by omega))]
    simp only [pairI, hs, Bool.false_and, Bool.not_false, Bool.not_true, cond_false, Option.bind_some]
  cases hp : inB p 0 255
  · unfold impl_UpperRead impl_UpperRead_j2 impl_UpperRead_j3 impl_UpperRead_j0 impl_UpperRead_j1 upRd
    rw [bif_f (decide_eq_false (by omega)), bif_f (decide_eq_false (by omega))]
    simp only [pairI, hs, byteI, hp, Bool.and_false, Bool.not_false, Bool.not_true, cond_false, cond_true, Option.bind_some]
  exact urI k hk d hb s t hs p hp hl
theorem lenT (l : List Int) (h : l.length ≤ 2000) : decide ((0 + l.length) * 1 ≤ 1099511627776) = true := decide_eq_true (by omega)
section
variable (k : Nat) (hk : MM < k) (d : List Int) (hb : bytesP d) (s t : D_Addr) (hs : bothB s t = true)
theorem upT_fold (d : List Int) (h : Nat) : (((1:Int), w2 d 0, w2 d 2, w4 d 4, w4 d 8, w2 d 12 % 4096, w2 d 14, w2 d 18, (0:Int), (0:Int), (0:Int), false, (d.drop 20).take (h - 20), d.drop h, ()) : D_Upper) = uTd d h := rfl
theorem upU_fold (d : List Int) (ns : Bool) : (((2:Int), w2 d 0, w2 d 2, (0:Int), (0:Int), (0:Int), (0:Int), (0:Int), (0:Int), (0:Int), (0:Int), ns, ([] : List Int), d.drop 8, ()) : D_Upper) = uUd d ns := rfl
theorem upI_fold (d : List Int) : (((3:Int), (0:Int), (0:Int), (0:Int), (0:Int), (0:Int), (0:Int), (0:Int), d.getD 0 0, d.getD 1 0, w4 d 4, false, ([] : List Int), d.drop 8, ()) : D_Upper) = uId d := rfl
include hk hb hs
theorem urS (p : Int) (hp : inB p 0 255 = true) (hl : d.length ≤ 1500) : spec_UpperRead k d p s t = some (((upRd d p s t).1, (upRd d p s t).2, ()), ()) := by
  have hv := pair_kind hs
  have c1 : decide ((1500 : Int) < ((d.length : Nat) : Int)) = false := decide_eq_false (by omega)
  have c1' : decide (1500 < d.length) = false := decide_eq_false (by omega)
  have cl : decide (((d.length : Nat) : Int) ≤ ((d.length : Nat) : Int)) = true := decide_eq_true (Int.le_refl _)
  unfold spec_UpperRead spec_UpperRead_j0 upRd
  rcases kind_cases p s.1 with e | e | e | e
  · have k1 : decide ((0 : Int) = 1) = false := rfl
    have k2 : decide ((0 : Int) = 2) = false := rfl
    have k3 : decide ((0 : Int) = 3) = false := rfl
    simp only [c1, c1', pairS, hs, inS, hp, knS p s.1 hp hv, e, k1, k2, k3, lenT d (by omega), decide_true, Bool.and_self, Bool.not_true, Bool.not_false, cond_true, cond_false, Option.bind_some]
  · have k0 : decide ((1 : Int) = 0) = false := rfl
    unfold rdT
    by_cases h0 : d.length < 8
    · have n0 : decide (((d.length : Nat) : Int) < 8) = true := decide_eq_true (by omega)
      have n1 : decide (d.length < 20) = true := decide_eq_true (by omega)
      simp only [c1, c1', pairS, hs, inS, hp, knS p s.1 hp hv, e, k0, n0, n1, decide_true, Bool.and_self, Bool.not_true, Bool.not_false, cond_true, cond_false, Option.bind_some]
    have m0 : decide (((d.length : Nat) : Int) < 8) = false := decide_eq_false (by omega)
    by_cases h1 : d.length < 20
    · have n0 : decide (((d.length : Nat) : Int) < 20) = true := decide_eq_true (by omega)
      have n1 : decide (d.length < 20) = true := decide_eq_true (by omega)
      simp only [c1, c1', pairS, hs, inS, hp, knS p s.1 hp hv, e, k0, m0, n0, n1, decide_true, Bool.and_self, Bool.not_true, Bool.not_false, cond_true, cond_false, Option.bind_some]
    have n0 : decide (((d.length : Nat) : Int) < 20) = false := decide_eq_false (by omega)
    have n1 : decide (d.length < 20) = false := decide_eq_false (by omega)
    have n2 : decide ((12 : Int) < ((d.length : Nat) : Int)) = true := decide_eq_true (by omega)
    have n3 : decide (12 < d.length) = true := decide_eq_true (by omega)
    have g := hb _ (getD_mem d 0 12 (by omega))
    have e0 : IntKind.wrap .i64 (d.getD 12 0) = d.getD 12 0 := w64 (by omega)
    have e16 : Int.tdiv (d.getD 12 0) 16 = d.getD 12 0 / 16 := Int.tdiv_eq_ediv_of_nonneg g.1
    obtain ⟨g1, g2, g3⟩ := hT_eq d hb (by omega)
    by_cases h2 : hT d < 20
    · have n4 : decide (((hT d : Nat) : Int) < 20) = true := decide_eq_true (by omega)
      have n5 : decide (hT d < 20) = true := decide_eq_true (by omega)
      simp only [c1, c1', pairS, hs, inS, hp, knS p s.1 hp hv, e, k0, m0, n0, n1, n2, n3, e0, e16, g3, n4, n5, decide_true, Bool.and_self, Bool.not_true, Bool.not_false, cond_true, cond_false, Option.bind_some]
    have n4 : decide (((hT d : Nat) : Int) < 20) = false := decide_eq_false (by omega)
    have n5 : decide (hT d < 20) = false := decide_eq_false (by omega)
    by_cases h3 : d.length < hT d
    · have n6 : decide (((d.length : Nat) : Int) < ((hT d : Nat) : Int)) = true := decide_eq_true (by omega)
      have n7 : decide (d.length < hT d) = true := decide_eq_true (by omega)
      simp only [c1, c1', pairS, hs, inS, hp, knS p s.1 hp hv, e, k0, m0, n0, n1, n2, n3, e0, e16, g3, n4, n5, n6, n7, decide_true, Bool.and_self, Bool.not_true, Bool.not_false, cond_true, cond_false, Option.bind_some]
    have n6 : decide (((d.length : Nat) : Int) < ((hT d : Nat) : Int)) = false := decide_eq_false (by omega)
    have n7 : decide (d.length < hT d) = false := decide_eq_false (by omega)
    have n8 : decide ((20 : Int) ≤ ((hT d : Nat) : Int)) = true := decide_eq_true (by omega)
    have n9 : decide ((0 : Int) ≤ ((hT d : Nat) : Int)) = true := decide_eq_true (by omega)
    have n10 : decide (((hT d : Nat) : Int) ≤ ((d.length : Nat) : Int)) = true := decide_eq_true (by omega)
    have t1 := lenT ((d.drop 20).take (hT d - 20)) (by rw [List.length_take, List.length_drop]; omega)
    have t2 := lenT (d.drop (hT d)) (by rw [List.length_drop]; omega)
    have m := (smT k hk d hb hl s t hs (hT d) (by omega) (by omega) g1 (by omega)).2
    have a0 : spec_Be16 d 0 = some ((w2 d 0, true, ()), ()) := be16S hb (by omega) 0 (by omega)
    have a2 : spec_Be16 d 2 = some ((w2 d 2, true, ()), ()) := be16S hb (by omega) 2 (by omega)
    have a12 : spec_Be16 d 12 = some ((w2 d 12, true, ()), ()) := be16S hb (by omega) 12 (by omega)
    have a14 : spec_Be16 d 14 = some ((w2 d 14, true, ()), ()) := be16S hb (by omega) 14 (by omega)
    have a16 : spec_Be16 d 16 = some ((w2 d 16, true, ()), ()) := be16S hb (by omega) 16 (by omega)
    have a18 : spec_Be16 d 18 = some ((w2 d 18, true, ()), ()) := be16S hb (by omega) 18 (by omega)
    have a4 : spec_Be32 k d 4 = some ((w4 d 4, true, ()), ()) := be32S k hk d hb 4 (by omega) (by omega)
    have a8 : spec_Be32 k d 8 = some ((w4 d 8, true, ()), ()) := be32S k hk d hb 8 (by omega) (by omega)
    have b12 := be_two hb 12
    have e4 : Int.tmod (w2 d 12) 4096 = w2 d 12 % 4096 := Int.tmod_eq_emod_of_nonneg b12.1
    simp only [c1, c1', pairS, hs, inS, hp, knS p s.1 hp hv, e, k0, m0, n0, n1, n2, n3, e0, e16, g3, n4, n5, n6, n7, n8, n9, n10, cl, Int.toNat_natCast, take_all, t1, t2, a0, a2, a4, a8, a12, a14, a16, a18, e4, upT_fold, m, decide_true, Bool.and_self, Bool.not_true, Bool.not_false, cond_true, cond_false, Option.bind_some, ng]
    exact pr _ _ _ _ _
  · have k0 : decide ((2 : Int) = 0) = false := rfl
    have k1 : decide ((2 : Int) = 1) = false := rfl
    unfold rdU
    by_cases h1 : d.length < 8
    · have n0 : decide (((d.length : Nat) : Int) < 8) = true := decide_eq_true (by omega)
      have n1 : decide (d.length < 8) = true := decide_eq_true (by omega)
      simp only [c1, c1', pairS, hs, inS, hp, knS p s.1 hp hv, e, k0, k1, n0, n1, decide_true, Bool.and_self, Bool.not_true, Bool.not_false, cond_true, cond_false, Option.bind_some]
    have n0 : decide (((d.length : Nat) : Int) < 8) = false := decide_eq_false (by omega)
    have n1 : decide (d.length < 8) = false := decide_eq_false (by omega)
    have n2 : decide ((8 : Int) ≤ ((d.length : Nat) : Int)) = true := decide_eq_true (by omega)
    have m := fun ns h => (smU k hk d hb hl s t hs ns (by omega) h).2
    have t2 := lenT (d.drop 8) (by rw [List.length_drop]; omega)
    have a0 : spec_Be16 d 0 = some ((w2 d 0, true, ()), ()) := be16S hb (by omega) 0 (by omega)
    have a2 : spec_Be16 d 2 = some ((w2 d 2, true, ()), ()) := be16S hb (by omega) 2 (by omega)
    have a4 : spec_Be16 d 4 = some ((w2 d 4, true, ()), ()) := be16S hb (by omega) 4 (by omega)
    have a6 : spec_Be16 d 6 = some ((w2 d 6, true, ()), ()) := be16S hb (by omega) 6 (by omega)
    simp only [c1, c1', pairS, hs, inS, hp, knS p s.1 hp hv, e, k0, k1, n0, n1, n2, cl, take_all, t2, a0, a2, a4, a6, upU_fold, decide_true, Bool.and_self, Bool.not_true, Bool.not_false, cond_true, cond_false, Option.bind_some, ng]
    cases decide (w2 d 4 = ((d.length : Nat) : Int))
    · rfl
    simp only [cond_true]
    unfold nsd
    by_cases h4 : s.1 = 4
    · have v4 : decide (s.1 = 4) = true := decide_eq_true h4
      rw [v4]
      cases decide (w2 d 6 = 0)
      · simp only [cond_true, cond_false, Bool.and_false, m false (fun h => by cases h), Option.bind_some]
        exact pr _ _ _ _ _
      · simp only [cond_true, cond_false, Bool.and_self, m true (fun _ => h4), Option.bind_some]
        exact pr _ _ _ _ _
    · have v4 : decide (s.1 = 4) = false := decide_eq_false h4
      rw [v4]
      cases decide (w2 d 6 = 0) <;> simp only [cond_true, cond_false, Bool.false_and, m false (fun h => by cases h), Option.bind_some] <;> exact pr _ _ _ _ _
  · have k0 : decide ((3 : Int) = 0) = false := rfl
    have k1 : decide ((3 : Int) = 1) = false := rfl
    have k2 : decide ((3 : Int) = 2) = false := rfl
    unfold rdIc
    by_cases h1 : d.length < 8
    · have n0 : decide (((d.length : Nat) : Int) < 8) = true := decide_eq_true (by omega)
      have n1 : decide (d.length < 8) = true := decide_eq_true (by omega)
      simp only [c1, c1', pairS, hs, inS, hp, knS p s.1 hp hv, e, k0, k1, k2, n0, n1, decide_true, Bool.and_self, Bool.not_true, Bool.not_false, cond_true, cond_false, Option.bind_some]
    have n0 : decide (((d.length : Nat) : Int) < 8) = false := decide_eq_false (by omega)
    have n1 : decide (d.length < 8) = false := decide_eq_false (by omega)
    have n2 : decide ((8 : Int) ≤ ((d.length : Nat) : Int)) = true := decide_eq_true (by omega)
    have q' : ∀ n : Int, n < 8 → decide (n < ((d.length : Nat) : Int)) = true := fun n hn => decide_eq_true (by omega)
    have q'' : ∀ n : Nat, n < 8 → decide (n < d.length) = true := fun n hn => decide_eq_true (by omega)
    have g0 := hb _ (getD_mem d 0 0 (by omega))
    have g1 := hb _ (getD_mem d 0 1 (by omega))
    have x0 : IntKind.wrap .i64 (d.getD 0 0) = d.getD 0 0 := w64 (by omega)
    have x1 : IntKind.wrap .i64 (d.getD 1 0) = d.getD 1 0 := w64 (by omega)
    have t2 := lenT (d.drop 8) (by rw [List.length_drop]; omega)
    have a2 : spec_Be16 d 2 = some ((w2 d 2, true, ()), ()) := be16S hb (by omega) 2 (by omega)
    have a4 : spec_Be32 k d 4 = some ((w4 d 4, true, ()), ()) := be32S k hk d hb 4 (by omega) (by omega)
    have m := (smI k hk d hb hl s t hs (by omega)).2
    simp only [c1, c1', pairS, hs, inS, hp, knS p s.1 hp hv, e, k0, k1, k2, n0, n1, n2, cl, q' 0 (by omega), q' 1 (by omega), q'' 0 (by omega), q'' 1 (by omega), x0, x1, take_all, t2, a2, a4, upI_fold, m, decide_true, Bool.and_self, Bool.not_true, Bool.not_false, cond_true, cond_false, Option.bind_some, ng]
    exact pr _ _ _ _ _
end
theorem upperS (k : Nat) (hk : MM < k) (d : List Int) (hb : bytesP d) (p : Int) (s t : D_Addr) : spec_UpperRead k d p s t = some (((upRd d p s t).1, (upRd d p s t).2, ()), ()) := by
  by_cases hl : d.length ≤ 1500
  case neg =>
    unfold spec_UpperRead spec_UpperRead_j0 upRd
    rw [bif_t (decide_eq_true (by omega)), bif_t (decide_eq_true (by omega))]
  cases hs : bothB s t
  · unfold spec_UpperRead spec_UpperRead_j0 upRd
    rw [bif_f (decide_eq_false (by omega)), bif_f (decide_eq_false (by omega))]
    simp only [pairS, hs, Bool.false_and, Bool.not_false, Bool.not_true, cond_false, Option.bind_some]
  cases hp : inB p 0 255
  · unfold spec_UpperRead spec_UpperRead_j0 upRd
    rw [bif_f (decide_eq_false (by omega)), bif_f (decide_eq_false (by omega))]
    simp only [pairS, hs, inS, hp, Bool.and_false, Bool.not_false, Bool.not_true, cond_false, cond_true, Option.bind_some]
  exact urS k hk d hb s t hs p hp hl
end Go.Tw
