/- Facts on mirrors. -/
import Derived.Test.YtmnfadocihfiaaaGreatPq1
set_option linter.all false
set_option maxRecDepth 100000
set_option maxHeartbeats 8000000
namespace Go.Tw
open Go Go.RowKit
theorem inB_t {x a b : Int} (h : a ≤ x ∧ x ≤ b) : inB x a b = true := inB_iff.2 h
theorem longB_t {x : Int} (h : 0 ≤ x ∧ x ≤ 4294967295) : longB x = true := by unfold longB; rw [decide_eq_true h.1, decide_eq_true h.2]; rfl
section
variable {sp dp sq ak bt wn ur ty cd rs n : Int} {ns : Bool} {o b : List Int}
theorem okT (k : Nat) (hk : MM < k) (h1 : 0 ≤ sp ∧ sp ≤ 65535) (h2 : 0 ≤ dp ∧ dp ≤ 65535) (h3 : 0 ≤ sq ∧ sq ≤ 4294967295) (h4 : 0 ≤ ak ∧ ak ≤ 4294967295) (h5 : 0 ≤ bt ∧ bt ≤ 4095) (h6 : 0 ≤ wn ∧ wn ≤ 65535) (h7 : 0 ≤ ur ∧ ur ≤ 65535) (h8 : o.length ≤ 40) (h9 : o.length % 4 = 0) (h10 : 20 + o.length + b.length ≤ 1500) (hn : n = 4 ∨ n = 6) :
    impl_UpperOk k (upT sp dp sq ak bt wn ur o b) n = some ((true, ()), ()) ∧ spec_UpperOk (upT sp dp sq ak bt wn ur o b) n = some ((true, ()), ()) := by
  obtain ⟨z1, z2⟩ := uszT (sp := sp) (dp := dp) (sq := sq) (ak := ak) (bt := bt) (wn := wn) (ur := ur) (o := o) (b := b) (by omega)
  have w1 := inB_t h1
  have w2 := inB_t h2
  have w3 := longB_t h3
  have w4 := longB_t h4
  have w5 := inB_t h5
  have w6 := inB_t h6
  have w7 := inB_t h7
  have y1 : decide (20 + ((o.length : Nat) : Int) + ((b.length : Nat) : Int) < 0) = false := decide_eq_false (by omega)
  have y2 : decide (1500 < 20 + ((o.length : Nat) : Int) + ((b.length : Nat) : Int)) = false := decide_eq_false (by omega)
  have y3 : decide (((o.length : Nat) : Int) ≤ 40) = true := decide_eq_true (by omega)
  have y4 : decide (Int.tmod ((o.length : Nat) : Int) 4 = 0) = true := decide_eq_true (by rw [Int.tmod_eq_emod_of_nonneg (by omega)]; omega)
  have y5 : decide (40 < ((o.length : Nat) : Int)) = false := decide_eq_false (by omega)
  have y6 : decide (0 ≤ 20 + ((o.length : Nat) : Int) + ((b.length : Nat) : Int)) = true := decide_eq_true (by omega)
  have y7 : decide (20 + ((o.length : Nat) : Int) + ((b.length : Nat) : Int) ≤ 1500) = true := decide_eq_true (by omega)
  have k0 : decide ((0 : Int) = 0) = true := rfl
  have k11 : decide ((1 : Int) = 1) = true := rfl
  have k12 : decide ((1 : Int) = 2) = false := rfl
  have k13 : decide ((1 : Int) = 3) = false := rfl
  have i0 : inB 0 0 255 = true := rfl
  have l0 : longB 0 = true := rfl
  have wA := wordsI k hk [sp, dp] (by simp)
  have wB := wordsI k hk [wn, ur] (by simp)
  have wC := zerosI k hk [(0:Int), 0, 0] (by simp)
  simp only [List.all_cons, List.all_nil, w1, w2, w6, w7, decide_true, Bool.and_self] at wA wB wC
  constructor
  · unfold impl_UpperOk impl_UpperOk_j0 impl_UpperOk_j7 impl_UpperOk_j8 impl_UpperOk_j5 impl_UpperOk_j6 impl_UpperOk_j4 impl_UpperOk_j3 impl_UpperOk_j2 impl_UpperOk_j1
    rcases hn with rfl | rfl
    · have n1 : decide ((4 : Int) = 4) = true := rfl
      simp only [n1, z1, y1, y2, wA, wB, wC, longI, inI, byteI, i0, l0, w3, w4, w5, y3, y4, k11, decide_true, Bool.and_self, Option.bind_some, Bool.not_true, Bool.not_false, cond_true, cond_false]
    · have n1 : decide ((6 : Int) = 4) = false := rfl
      have n2 : decide ((6 : Int) = 6) = true := rfl
      simp only [n1, n2, z1, y1, y2, wA, wB, wC, longI, inI, byteI, i0, l0, w3, w4, w5, y3, y4, k11, decide_true, Bool.and_self, Option.bind_some, Bool.not_true, Bool.not_false, cond_true, cond_false]
  · unfold spec_UpperOk spec_UpperOk_j0 spec_UpperOk_j1 spec_UpperOk_j2 spec_UpperOk_j3
    rcases hn with rfl | rfl
    · have n1 : decide ((4 : Int) = 4) = true := rfl
      simp only [n1, z2, y5, y6, y7, longS, inS, i0, l0, w1, w2, w3, w4, w5, w6, w7, y4, k0, k11, k12, k13, decide_true, Bool.and_self, Option.bind_some, Bool.not_true, Bool.not_false, cond_true, cond_false]
    · have n1 : decide ((6 : Int) = 4) = false := rfl
      have n2 : decide ((6 : Int) = 6) = true := rfl
      simp only [n1, n2, z2, y5, y6, y7, longS, inS, i0, l0, w1, w2, w3, w4, w5, w6, w7, y4, k0, k11, k12, k13, decide_true, Bool.and_self, Option.bind_some, Bool.not_true, Bool.not_false, cond_true, cond_false]
theorem okU (k : Nat) (hk : MM < k) (h1 : 0 ≤ sp ∧ sp ≤ 65535) (h2 : 0 ≤ dp ∧ dp ≤ 65535) (h10 : 8 + b.length ≤ 1500) (hn : n = 4 ∨ n = 6) (hs : ns = true → n = 4) :
    impl_UpperOk k (upU sp dp ns b) n = some ((true, ()), ()) ∧ spec_UpperOk (upU sp dp ns b) n = some ((true, ()), ()) := by
  obtain ⟨z1, z2⟩ := uszU (sp := sp) (dp := dp) (ns := ns) (b := b) (by omega)
  have w1 := inB_t h1
  have w2 := inB_t h2
  have y1 : decide (8 + ((b.length : Nat) : Int) < 0) = false := decide_eq_false (by omega)
  have y2 : decide (1500 < 8 + ((b.length : Nat) : Int)) = false := decide_eq_false (by omega)
  have y6 : decide (0 ≤ 8 + ((b.length : Nat) : Int)) = true := decide_eq_true (by omega)
  have y7 : decide (8 + ((b.length : Nat) : Int) ≤ 1500) = true := decide_eq_true (by omega)
  have e0 : ((([] : List Int).length : Nat) : Int) = 0 := rfl
  have m0 : Int.tmod (0:Int) 4 = 0 := rfl
  have l40 : decide ((0:Int) ≤ 40) = true := rfl
  have k0 : decide ((0 : Int) = 0) = true := rfl
  have k11 : decide ((2 : Int) = 1) = false := rfl
  have k12 : decide ((2 : Int) = 2) = true := rfl
  have k13 : decide ((2 : Int) = 3) = false := rfl
  have i0 : inB 0 0 255 = true := rfl
  have i1 : inB 0 0 4095 = true := rfl
  have i2 : inB 0 0 65535 = true := rfl
  have l0 : longB 0 = true := rfl
  have wA := wordsI k hk [sp, dp] (by simp)
  have wB := wordsI k hk [(0:Int), 0] (by simp)
  have wC := zerosI k hk [(0:Int), 0, 0, 0, 0, 0, 0, 0, 0] (by simp)
  simp only [List.all_cons, List.all_nil, w1, w2, i2, decide_true, Bool.and_self] at wA wB wC
  constructor
  · unfold impl_UpperOk impl_UpperOk_j0 impl_UpperOk_j7 impl_UpperOk_j8 impl_UpperOk_j5 impl_UpperOk_j6 impl_UpperOk_j4 impl_UpperOk_j3 impl_UpperOk_j2 impl_UpperOk_j1
    rcases hn with rfl | rfl
    · have n1 : decide ((4 : Int) = 4) = true := rfl
      simp only [n1, z1, y1, y2, e0, wA, wB, wC, longI, inI, byteI, i0, i1, l0, l40, k11, k12, decide_true, Bool.and_self, Option.bind_some, Bool.not_true, Bool.not_false, cond_true, cond_false]
      cases ns <;> rfl
    · have n1 : decide ((6 : Int) = 4) = false := rfl
      have n2 : decide ((6 : Int) = 6) = true := rfl
      have hns : ns = false := by
        cases ns
        · rfl
        · exact absurd (hs rfl) (by decide)
      subst hns
      simp only [n1, n2, z1, y1, y2, e0, wA, wB, wC, longI, inI, byteI, i0, i1, l0, l40, k11, k12, decide_true, Bool.and_self, Option.bind_some, Bool.not_true, Bool.not_false, cond_true, cond_false]
  · unfold spec_UpperOk spec_UpperOk_j0 spec_UpperOk_j1 spec_UpperOk_j2 spec_UpperOk_j3
    rcases hn with rfl | rfl
    · have n1 : decide ((4 : Int) = 4) = true := rfl
      simp only [n1, z2, y6, y7, e0, longS, inS, i0, l0, w1, w2, k0, k11, k12, k13, decide_true, Bool.and_self, Option.bind_some, Bool.not_true, Bool.not_false, cond_true, cond_false]
      cases ns <;> rfl
    · have n1 : decide ((6 : Int) = 4) = false := rfl
      have n2 : decide ((6 : Int) = 6) = true := rfl
      have hns : ns = false := by
        cases ns
        · rfl
        · exact absurd (hs rfl) (by decide)
      subst hns
      simp only [n1, n2, z2, y6, y7, e0, longS, inS, i0, l0, w1, w2, k0, k11, k12, k13, decide_true, Bool.and_self, Option.bind_some, Bool.not_true, Bool.not_false, cond_true, cond_false]
theorem okI (k : Nat) (hk : MM < k) (h1 : 0 ≤ ty ∧ ty ≤ 255) (h2 : 0 ≤ cd ∧ cd ≤ 255) (h3 : 0 ≤ rs ∧ rs ≤ 4294967295) (h10 : 8 + b.length ≤ 1500) (hn : n = 4 ∨ n = 6) :
    impl_UpperOk k (upI ty cd rs b) n = some ((true, ()), ()) ∧ spec_UpperOk (upI ty cd rs b) n = some ((true, ()), ()) := by
  obtain ⟨z1, z2⟩ := uszI (ty := ty) (cd := cd) (rs := rs) (b := b) (by omega)
  have w1 := inB_t h1
  have w2 := inB_t h2
  have w3 := longB_t h3
  have y1 : decide (8 + ((b.length : Nat) : Int) < 0) = false := decide_eq_false (by omega)
  have y2 : decide (1500 < 8 + ((b.length : Nat) : Int)) = false := decide_eq_false (by omega)
  have y6 : decide (0 ≤ 8 + ((b.length : Nat) : Int)) = true := decide_eq_true (by omega)
  have y7 : decide (8 + ((b.length : Nat) : Int) ≤ 1500) = true := decide_eq_true (by omega)
  have e0 : ((([] : List Int).length : Nat) : Int) = 0 := rfl
  have l40 : decide ((0:Int) ≤ 40) = true := rfl
  have k0 : decide ((0 : Int) = 0) = true := rfl
  have k11 : decide ((3 : Int) = 1) = false := rfl
  have k12 : decide ((3 : Int) = 2) = false := rfl
  have k13 : decide ((3 : Int) = 3) = true := rfl
  have i1 : inB 0 0 4095 = true := rfl
  have i2 : inB 0 0 65535 = true := rfl
  have l0 : longB 0 = true := rfl
  have wA := wordsI k hk [(0:Int), 0] (by simp)
  have wC := zerosI k hk [(0:Int), 0, 0, 0, 0, 0, 0, 0] (by simp)
  simp only [List.all_cons, List.all_nil, i2, decide_true, Bool.and_self] at wA wC
  constructor
  · unfold impl_UpperOk impl_UpperOk_j0 impl_UpperOk_j7 impl_UpperOk_j8 impl_UpperOk_j5 impl_UpperOk_j6 impl_UpperOk_j4 impl_UpperOk_j3 impl_UpperOk_j2 impl_UpperOk_j1
    rcases hn with rfl | rfl
    · have n1 : decide ((4 : Int) = 4) = true := rfl
      simp only [n1, z1, y1, y2, e0, wA, wC, longI, inI, byteI, w1, w2, w3, i1, l0, l40, k11, k12, k13, decide_true, Bool.and_self, Option.bind_some, Bool.not_true, Bool.not_false, cond_true, cond_false]
    · have n1 : decide ((6 : Int) = 4) = false := rfl
      have n2 : decide ((6 : Int) = 6) = true := rfl
      simp only [n1, n2, z1, y1, y2, e0, wA, wC, longI, inI, byteI, w1, w2, w3, i1, l0, l40, k11, k12, k13, decide_true, Bool.and_self, Option.bind_some, Bool.not_true, Bool.not_false, cond_true, cond_false]
  · unfold spec_UpperOk spec_UpperOk_j0 spec_UpperOk_j1 spec_UpperOk_j2 spec_UpperOk_j3
    rcases hn with rfl | rfl
    · have n1 : decide ((4 : Int) = 4) = true := rfl
      simp only [n1, z2, y6, y7, e0, longS, inS, i2, w1, w2, w3, k0, k11, k12, k13, decide_true, Bool.and_self, Option.bind_some, Bool.not_true, Bool.not_false, cond_true, cond_false]
    · have n1 : decide ((6 : Int) = 4) = false := rfl
      have n2 : decide ((6 : Int) = 6) = true := rfl
      simp only [n1, n2, z2, y6, y7, e0, longS, inS, i2, w1, w2, w3, k0, k11, k12, k13, decide_true, Bool.and_self, Option.bind_some, Bool.not_true, Bool.not_false, cond_true, cond_false]
theorem okO (k : Nat) (hk : MM < k) (h10 : b.length ≤ 1500) (hn : n = 4 ∨ n = 6) : impl_UpperOk k (upO b) n = some ((true, ()), ()) ∧ spec_UpperOk (upO b) n = some ((true, ()), ()) := by
  obtain ⟨z1, z2⟩ := uszO (b := b) (by omega)
  have y1 : decide (((b.length : Nat) : Int) < 0) = false := decide_eq_false (by omega)
  have y2 : decide (1500 < ((b.length : Nat) : Int)) = false := decide_eq_false (by omega)
  have y6 : decide (0 ≤ ((b.length : Nat) : Int)) = true := decide_eq_true (by omega)
  have y7 : decide (((b.length : Nat) : Int) ≤ 1500) = true := decide_eq_true (by omega)
  have e0 : ((([] : List Int).length : Nat) : Int) = 0 := rfl
  have l40 : decide ((0:Int) ≤ 40) = true := rfl
  have k0 : decide ((0 : Int) = 0) = true := rfl
  have k11 : decide ((0 : Int) = 1) = false := rfl
  have k12 : decide ((0 : Int) = 2) = false := rfl
  have k13 : decide ((0 : Int) = 3) = false := rfl
  have i0 : inB 0 0 255 = true := rfl
  have i1 : inB 0 0 4095 = true := rfl
  have i2 : inB 0 0 65535 = true := rfl
  have l0 : longB 0 = true := rfl
  have wA := wordsI k hk [(0:Int), 0] (by simp)
  have wC := zerosI k hk [(0:Int), 0, 0, 0, 0, 0, 0, 0, 0, 0, 0] (by simp)
  simp only [List.all_cons, List.all_nil, i2, decide_true, Bool.and_self] at wA wC
  constructor
  · unfold impl_UpperOk impl_UpperOk_j0 impl_UpperOk_j7 impl_UpperOk_j8 impl_UpperOk_j5 impl_UpperOk_j6 impl_UpperOk_j4 impl_UpperOk_j3 impl_UpperOk_j2 impl_UpperOk_j1
    rcases hn with rfl | rfl
    · have n1 : decide ((4 : Int) = 4) = true := rfl
      simp only [n1, z1, y1, y2, e0, wA, wC, longI, inI, byteI, i0, i1, l0, l40, k11, k12, k13, decide_true, Bool.and_self, Option.bind_some, Bool.not_true, Bool.not_false, cond_true, cond_false]
    · have n1 : decide ((6 : Int) = 4) = false := rfl
      have n2 : decide ((6 : Int) = 6) = true := rfl
      simp only [n1, n2, z1, y1, y2, e0, wA, wC, longI, inI, byteI, i0, i1, l0, l40, k11, k12, k13, decide_true, Bool.and_self, Option.bind_some, Bool.not_true, Bool.not_false, cond_true, cond_false]
  · unfold spec_UpperOk spec_UpperOk_j0 spec_UpperOk_j1 spec_UpperOk_j2 spec_UpperOk_j3
    rcases hn with rfl | rfl
    · have n1 : decide ((4 : Int) = 4) = true := rfl
      simp only [n1, z2, y6, y7, e0, inS, i2, k0, k11, k12, k13, decide_true, Bool.and_self, Option.bind_some, Bool.not_true, Bool.not_false, cond_true, cond_false]
    · have n1 : decide ((6 : Int) = 4) = false := rfl
      have n2 : decide ((6 : Int) = 6) = true := rfl
      simp only [n1, n2, z2, y6, y7, e0, inS, i2, k0, k11, k12, k13, decide_true, Bool.and_self, Option.bind_some, Bool.not_true, Bool.not_false, cond_true, cond_false]
end
end Go.Tw
