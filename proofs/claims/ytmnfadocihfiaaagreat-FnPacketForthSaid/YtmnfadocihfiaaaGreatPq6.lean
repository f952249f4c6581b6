/- Facts on mirrors. -/
import Derived.Test.YtmnfadocihfiaaaGreatPq5
set_option linter.all false
set_option maxRecDepth 100000
set_option maxHeartbeats 8000000
namespace Go.Tw
open Go Go.RowKit
section
variable (k : Nat) (hk : MM < k) (d : List Int) (hb : bytesP d) (s t : D_Addr) (hs : bothB s t = true)
theorem ng (b : Bool) {α : Type} (x y : α) : (bif (!b) then x else y) = bif b then y else x := by cases b <;> rfl
theorem pr {α β : Type} (b : Bool) (x y : α) (m n : β) : (bif b then some (((x, m, ()), ()) : (α × β × Unit) × Unit) else some ((y, n, ()), ())) = some (((bif b then ((x, m) : α × β) else (y, n)).1, (bif b then ((x, m) : α × β) else (y, n)).2, ()), ()) := by cases b <;> rfl
theorem hT_eq (d : List Int) (hb : bytesP d) (h : 12 < d.length) : hT d % 4 = 0 ∧ hT d ≤ 60 ∧ IntKind.wrap .i64 (4 * IntKind.wrap .i64 (d.getD 12 0 / 16)) = ((hT d : Nat) : Int) := by
  have g := hb _ (getD_mem d 0 12 h)
  have e1 : IntKind.wrap .i64 (d.getD 12 0 / 16) = d.getD 12 0 / 16 := w64 (by omega)
  have e2 : IntKind.wrap .i64 (4 * (d.getD 12 0 / 16)) = 4 * (d.getD 12 0 / 16) := w64 (by omega)
  unfold hT
  refine ⟨by omega, by omega, ?_⟩
  rw [e1, e2]; omega
include hk hb hs
theorem urI (p : Int) (hp : inB p 0 255 = true) (hl : d.length ≤ 1500) : impl_UpperRead k d p s t = some (((upRd d p s t).1, (upRd d p s t).2, ()), ()) := by
  have hv := pair_kind hs
  have c1 : decide ((1500 : Int) < ((d.length : Nat) : Int)) = false := decide_eq_false (by omega)
  have c1' : decide (1500 < d.length) = false := decide_eq_false (by omega)
  have cl : decide (((d.length : Nat) : Int) ≤ ((d.length : Nat) : Int)) = true := decide_eq_true (Int.le_refl _)
  have hc0 : impl_upperHead 0 = some ((0, ()), ()) := rfl
  have hc1 : impl_upperHead 1 = some ((20, ()), ()) := rfl
  have hc2 : impl_upperHead 2 = some ((8, ()), ()) := rfl
  have hc3 : impl_upperHead 3 = some ((8, ()), ()) := rfl
  unfold impl_UpperRead impl_UpperRead_j2 impl_UpperRead_j3 impl_UpperRead_j0 impl_UpperRead_j1 upRd
  rcases kind_cases p s.1 with e | e | e | e
  · have k1 : decide ((0 : Int) = 1) = false := rfl
    have k2 : decide ((0 : Int) = 2) = false := rfl
    have k3 : decide ((0 : Int) = 3) = false := rfl
    have n0 : decide (((d.length : Nat) : Int) < 0) = false := decide_eq_false (by omega)
    simp only [c1, c1', pairI, hs, byteI, hp, knI p s.1 hp hv, e, k1, k2, k3, hc0, n0, upofO k hk d hb hl, sumO (b := d) k hk hs hl, decide_true, Bool.and_self, Bool.not_true, Bool.not_false, cond_true, cond_false, Option.bind_some]
  · have k1 : decide ((1 : Int) = 2) = false := rfl
    by_cases h1 : d.length < 20
    · have n0 : decide (((d.length : Nat) : Int) < 20) = true := decide_eq_true (by omega)
      have n1 : decide (d.length < 20) = true := decide_eq_true (by omega)
      unfold rdT
      simp only [c1, c1', pairI, hs, byteI, hp, knI p s.1 hp hv, e, hc1, n0, n1, decide_true, Bool.and_self, Bool.not_true, Bool.not_false, cond_true, cond_false, Option.bind_some]
    have n0 : decide (((d.length : Nat) : Int) < 20) = false := decide_eq_false (by omega)
    have n1 : decide (d.length < 20) = false := decide_eq_false (by omega)
    have n2 : decide ((12 : Int) < ((d.length : Nat) : Int)) = true := decide_eq_true (by omega)
    have n3 : decide (12 < d.length) = true := decide_eq_true (by omega)
    have e16 : Int.fdiv (d.getD 12 0) (2 ^ min (Int.toNat 4) (IntKind.bits .u8)) = d.getD 12 0 / 16 := by
      show Int.fdiv (d.getD 12 0) 16 = d.getD 12 0 / 16
      exact Int.fdiv_eq_ediv_of_nonneg _ (by decide)
    obtain ⟨g1, g2, g3⟩ := hT_eq d hb (by omega)
    unfold rdT
    by_cases h2 : hT d < 20
    · have n4 : decide (((hT d : Nat) : Int) < 20) = true := decide_eq_true (by omega)
      have n5 : decide (hT d < 20) = true := decide_eq_true (by omega)
      simp only [c1, c1', pairI, hs, byteI, hp, knI p s.1 hp hv, e, hc1, n0, n1, n2, n3, e16, g3, n4, n5, decide_true, Bool.and_self, Bool.not_true, Bool.not_false, cond_true, cond_false, Option.bind_some]
    have n4 : decide (((hT d : Nat) : Int) < 20) = false := decide_eq_false (by omega)
    have n5 : decide (hT d < 20) = false := decide_eq_false (by omega)
    by_cases h3 : d.length < hT d
    · have n6 : decide (((d.length : Nat) : Int) < ((hT d : Nat) : Int)) = true := decide_eq_true (by omega)
      have n7 : decide (d.length < hT d) = true := decide_eq_true (by omega)
      simp only [c1, c1', pairI, hs, byteI, hp, knI p s.1 hp hv, e, hc1, n0, n1, n2, n3, e16, g3, n4, n5, n6, n7, decide_true, Bool.and_self, Bool.not_true, Bool.not_false, cond_true, cond_false, Option.bind_some]
    have n6 : decide (((d.length : Nat) : Int) < ((hT d : Nat) : Int)) = false := decide_eq_false (by omega)
    have n7 : decide (d.length < hT d) = false := decide_eq_false (by omega)
    have u := upofT k hk d hb hl (hT d) (by omega) (by omega)
    have m := (smT k hk d hb hl s t hs (hT d) (by omega) (by omega) g1 (by omega)).1
    simp only [c1, c1', pairI, hs, byteI, hp, knI p s.1 hp hv, e, k1, hc1, n0, n1, n2, n3, e16, g3, n4, n5, n6, n7, u, setT, m, decide_true, Bool.and_self, Bool.not_true, Bool.not_false, cond_true, cond_false, Option.bind_some, ng]
    exact pr _ _ _ _ _
  · have k1 : decide ((2 : Int) = 1) = false := rfl
    unfold rdU
    by_cases h1 : d.length < 8
    · have n0 : decide (((d.length : Nat) : Int) < 8) = true := decide_eq_true (by omega)
      have n1 : decide (d.length < 8) = true := decide_eq_true (by omega)
      simp only [c1, c1', pairI, hs, byteI, hp, knI p s.1 hp hv, e, k1, hc2, n0, n1, decide_true, Bool.and_self, Bool.not_true, Bool.not_false, cond_true, cond_false, Option.bind_some]
    have n0 : decide (((d.length : Nat) : Int) < 8) = false := decide_eq_false (by omega)
    have n1 : decide (d.length < 8) = false := decide_eq_false (by omega)
    have n2 : decide ((6 : Int) ≤ ((d.length : Nat) : Int)) = true := decide_eq_true (by omega)
    have u := upofU k hk d hb hl (by omega)
    have m := fun ns h => (smU k hk d hb hl s t hs ns (by omega) h).1
    have b4 : impl_beOf k ((d.drop 4).take 2) = some ((w2 d 4, ()), ()) := beI k hk hb 4 2 (by omega)
    simp only [c1, c1', pairI, hs, byteI, hp, knI p s.1 hp hv, e, k1, hc2, n0, n1, n2, b4, u, setU, decide_true, Bool.and_self, Bool.not_true, Bool.not_false, cond_true, cond_false, Option.bind_some, ng]
    cases decide (w2 d 4 = ((d.length : Nat) : Int))
    · rfl
    simp only [cond_true]
    unfold nsd
    by_cases h4 : s.1 = 4
    · have v4 : decide (s.1 = 4) = true := decide_eq_true h4
      simp only [v4, cond_true, Bool.true_and, m (decide (w2 d 6 = 0)) (fun _ => h4), Option.bind_some]
      exact pr _ _ _ _ _
    · have v4 : decide (s.1 = 4) = false := decide_eq_false h4
      simp only [v4, cond_false, Bool.false_and, m false (fun h => by cases h), Option.bind_some]
      exact pr _ _ _ _ _
  · have k1 : decide ((3 : Int) = 1) = false := rfl
    have k2 : decide ((3 : Int) = 2) = false := rfl
    unfold rdIc
    by_cases h1 : d.length < 8
    · have n0 : decide (((d.length : Nat) : Int) < 8) = true := decide_eq_true (by omega)
      have n1 : decide (d.length < 8) = true := decide_eq_true (by omega)
      simp only [c1, c1', pairI, hs, byteI, hp, knI p s.1 hp hv, e, k1, k2, hc3, n0, n1, decide_true, Bool.and_self, Bool.not_true, Bool.not_false, cond_true, cond_false, Option.bind_some]
    have n0 : decide (((d.length : Nat) : Int) < 8) = false := decide_eq_false (by omega)
    have n1 : decide (d.length < 8) = false := decide_eq_false (by omega)
    have u := upofI k hk d hb hl (by omega)
    have m := (smI k hk d hb hl s t hs (by omega)).1
    simp only [c1, c1', pairI, hs, byteI, hp, knI p s.1 hp hv, e, k1, k2, hc3, n0, n1, u, setI, m, decide_true, Bool.and_self, Bool.not_true, Bool.not_false, cond_true, cond_false, Option.bind_some, ng]
    exact pr _ _ _ _ _
end
end Go.Tw
