/- Facts on mirrors. -/
import Derived.Test.YtemcbhjheebnnaaGreatPp9
set_option linter.all false
set_option maxRecDepth 100000
namespace Go.Tw
open Go Go.RowKit
open Go.IntKind renaming wrap → Wr
section
set_option maxHeartbeats 4000000
theorem th (l : List Int) (hl : l.length ≤ 1000) : ∀ (m i k : Nat), i + m = l.length → m < k →
    iter cS k ((), l, (l.length : Int), (i : Int), ()) = some (bif (l.drop i).all (fun x => gq x 0 65535) then Sum.inr ((), ()) else Sum.inl ((), false, ()))
  | m, i, 0, h, hk => by omega
  | 0, i, k + 1, h, hk => by
    have st : ∀ rec, cS rec ((), l, (l.length : Int), (i : Int), ()) = some (Sum.inr ((), ())) := fun rec => by
      unfold cS; exact aK (ao (by dsimp only; omega))
    rw [bd, st, List.drop_eq_nil_of_le (by omega)]; rfl
  | m + 1, i, k + 1, h, hk => by
    have hi : i < l.length := by omega
    have st : ∀ rec, cS rec ((), l, (l.length : Int), (i : Int), ()) = bif gq (l.getD i 0) 0 65535 then rec ((), l, (l.length : Int), ((i + 1 : Nat) : Int), ()) else some (Sum.inl ((), false, ())) := fun rec => by
      unfold cS
      dsimp only
      rw [aw (ae (by omega)), aw (by simp; omega), aw (ae (by omega))]
      simp only [Int.toNat_natCast, Ir, ai, bn]
      rw [bL (n := (i : Int) + 1) (by omega)]
      rfl
    rw [bd, st, List.drop_eq_getElem_cons hi, List.all_cons, ← dT l 0 i hi]
    cases gq (l.getD i 0) 0 65535
    · rfl
    · rw [Bool.true_and]
      exact th l hl m (i + 1) k (by omega) (by omega)
theorem jl (k : Nat) (hk : MM < k) (l : List Int) (hl : l.length ≤ 1000) : iD k l = some ((l.all (fun x => gq x 0 65535), ()), ()) := by
  have hM : MM = 1048576 := rfl
  unfold iD
  rw [show iter cS k ((), l, (l.length : Int), (0:Int), ()) = _ from th l hl l.length 0 k (by omega) (by omega), List.drop_zero]
  cases l.all (fun x => gq x 0 65535) <;> rfl
theorem vS (l : List Int) (hl : l.length ≤ 1000) : ∀ (m i k : Nat), i + m = l.length → m < k →
    ∃ j : Int, 0 ≤ j ∧ iter bM k ((), l, (), (l.length : Int), (i : Int), ()) = some (bif (l.drop i).all (fun x => decide (x = 0)) then Sum.inr ((), ()) else Sum.inl ((), j, ()))
  | m, i, 0, h, hk => by omega
  | 0, i, k + 1, h, hk => by
    refine ⟨0, by omega, ?_⟩
    have st : ∀ rec, bM rec ((), l, (), (l.length : Int), (i : Int), ()) = some (Sum.inr ((), ())) := fun rec => by
      unfold bM; exact aK (ao (by dsimp only; omega))
    rw [bd, st, List.drop_eq_nil_of_le (by omega)]; rfl
  | m + 1, i, k + 1, h, hk => by
    obtain ⟨j, hj, ih⟩ := vS l hl m (i + 1) k (by omega) (by omega)
    have hi : i < l.length := by omega
    have st : ∀ rec, bM rec ((), l, (), (l.length : Int), (i : Int), ()) = bif decide (l.getD i 0 = 0) then rec ((), l, (), (l.length : Int), ((i + 1 : Nat) : Int), ()) else some (Sum.inl ((), (i : Int), ())) := fun rec => by
      unfold bM kJ
      dsimp only
      rw [aw (ae (by omega)), aw (by simp; omega), aw (ae (by omega))]
      simp only [Int.toNat_natCast, ai, bn]
      rw [bL (n := (i : Int) + 1) (by omega)]
      rfl
    rw [bd, st, List.drop_eq_getElem_cons hi, List.all_cons, ← dT l 0 i hi]
    cases decide (l.getD i 0 = 0)
    · exact ⟨i, by omega, rfl⟩
    · exact ⟨j, hj, by rw [Bool.true_and]; exact ih⟩
theorem kU (k : Nat) (hk : MM < k) (l : List Int) (hl : l.length ≤ 1000) : dy k l = some ((l.all (fun x => decide (x = 0)), ()), ()) := by
  have hM : MM = 1048576 := rfl
  unfold dy fY gU
  obtain ⟨j, hj, e⟩ := vS l hl l.length 0 k (by omega) (by omega)
  rw [show iter bM k ((), l, (), (l.length : Int), (0:Int), ()) = _ from e, List.drop_zero]
  cases l.all (fun x => decide (x = 0))
  · simp only [al, ai, Sum.elim_inl]
    rw [ae hj]; rfl
  · rfl
abbrev wU (sp dp sq ak bt wn ur : Int) (o b : List Int) : aF := (1, sp, dp, sq, ak, bt, wn, ur, 0, 0, 0, false, o, b, ())
abbrev wV (sp dp : Int) (ns : Bool) (b : List Int) : aF := (2, sp, dp, 0, 0, 0, 0, 0, 0, 0, 0, ns, [], b, ())
abbrev wW (ty cd rs : Int) (b : List Int) : aF := (3, 0, 0, 0, 0, 0, 0, 0, ty, cd, rs, false, [], b, ())
abbrev D7 (b : List Int) : aF := (0, 0, 0, 0, 0, 0, 0, 0, 0, 0, 0, false, [], b, ())
section
variable {sp dp sq ak bt wn ur ty cd rs n : Int} {ns : Bool} {o b : List Int}
theorem M7 (h : o.length + b.length ≤ 2000) : aS (wU sp dp sq ak bt wn ur o b) = some ((20 + (o.length : Int) + (b.length : Int), ()), ()) ∧ aM (wU sp dp sq ak bt wn ur o b) = some ((20 + (o.length : Int) + (b.length : Int), ()), ()) := by
  have w1 : Wr .i64 (20 + (o.length : Int)) = 20 + (o.length : Int) := bL (by omega)
  have w2 : Wr .i64 (20 + (o.length : Int) + (b.length : Int)) = 20 + (o.length : Int) + (b.length : Int) := bL (by omega)
  constructor
  · unfold aS cK; simp [w1, w2]
  · unfold aM; simp [w1, w2]
theorem AL (h : b.length ≤ 2000) : aS (wV sp dp ns b) = some ((8 + (b.length : Int), ()), ()) ∧ aM (wV sp dp ns b) = some ((8 + (b.length : Int), ()), ()) := by
  have w2 : Wr .i64 (8 + (b.length : Int)) = 8 + (b.length : Int) := bL (by omega)
  constructor
  · unfold aS cK; simp [w2]
  · unfold aM; simp [w2]
theorem M8 (h : b.length ≤ 2000) : aS (wW ty cd rs b) = some ((8 + (b.length : Int), ()), ()) ∧ aM (wW ty cd rs b) = some ((8 + (b.length : Int), ()), ()) := by
  have w2 : Wr .i64 (8 + (b.length : Int)) = 8 + (b.length : Int) := bL (by omega)
  constructor
  · unfold aS cK; simp [w2]
  · unfold aM; simp [w2]
theorem P1 (h : b.length ≤ 2000) : aS (D7 b) = some (((b.length : Int), ()), ()) ∧ aM (D7 b) = some (((b.length : Int), ()), ()) := by
  have w2 : Wr .i64 (0 + (b.length : Int)) = (b.length : Int) := (bL (n := 0 + (b.length : Int)) ⟨by omega, by omega⟩).trans (by omega)
  have w3 : Wr .i64 (b.length : Int) = (b.length : Int) := bL (by omega)
  constructor
  · unfold aS cK; simp [w2, w3]
  · unfold aM; simp
end
end
section
set_option maxHeartbeats 8000000
theorem nd {x a b : Int} (h : a ≤ x ∧ x ≤ b) : gq x a b = true := fV.2 h
theorem uH {x : Int} (h : 0 ≤ x ∧ x ≤ 4294967295) : dM x = true := by unfold dM; rw [ae h.1, ae h.2]; rfl
section
variable {sp dp sq ak bt wn ur ty cd rs n : Int} {ns : Bool} {o b : List Int}
theorem Rk (k : Nat) (hk : MM < k) (h1 : 0 ≤ sp ∧ sp ≤ 65535) (h2 : 0 ≤ dp ∧ dp ≤ 65535) (h3 : 0 ≤ sq ∧ sq ≤ 4294967295) (h4 : 0 ≤ ak ∧ ak ≤ 4294967295) (h5 : 0 ≤ bt ∧ bt ≤ 4095) (h6 : 0 ≤ wn ∧ wn ≤ 65535) (h7 : 0 ≤ ur ∧ ur ≤ 65535) (h8 : o.length ≤ 40) (h9 : o.length % 4 = 0) (h10 : 20 + o.length + b.length ≤ 1500) (hn : n = 4 ∨ n = 6) :
    br k (wU sp dp sq ak bt wn ur o b) n = some ((true, ()), ()) ∧ bq (wU sp dp sq ak bt wn ur o b) n = some ((true, ()), ()) := by
  obtain ⟨z1, z2⟩ := M7 (sp := sp) (dp := dp) (sq := sq) (ak := ak) (bt := bt) (wn := wn) (ur := ur) (o := o) (b := b) (by omega)
  have w1 := nd h1
  have w2 := nd h2
  have w3 := uH h3
  have w4 := uH h4
  have w5 := nd h5
  have w6 := nd h6
  have w7 := nd h7
  have y1 : decide (20 + (o.length : Int) + (b.length : Int) < 0) = false := ao (by omega)
  have y2 : decide (1500 < 20 + (o.length : Int) + (b.length : Int)) = false := ao (by omega)
  have y3 : decide ((o.length : Int) ≤ 40) = true := ae (by omega)
  have y4 : decide (Int.tmod (o.length : Int) 4 = 0) = true := ae (by rw [Int.tmod_eq_emod_of_nonneg (by omega)]; omega)
  have y5 : decide (40 < (o.length : Int)) = false := ao (by omega)
  have y6 : decide (0 ≤ 20 + (o.length : Int) + (b.length : Int)) = true := ae (by omega)
  have y7 : decide (20 + (o.length : Int) + (b.length : Int) ≤ 1500) = true := ae (by omega)
  have k0 : decide ((0 : Int) = 0) = true := rfl
  have k11 : decide ((1 : Int) = 1) = true := rfl
  have nZ : decide ((1 : Int) = 2) = false := rfl
  have k13 : decide ((1 : Int) = 3) = false := rfl
  have i0 : gq 0 0 255 = true := rfl
  have l0 : dM 0 = true := rfl
  have wA := jl k hk [sp, dp] (by simp)
  have wB := jl k hk [wn, ur] (by simp)
  have wC := kU k hk [(0:Int), 0, 0] (by simp)
  simp only [List.all_cons, List.all_nil, w1, w2, w6, w7, aI, Bool.and_self] at wA wB wC
  constructor
  · unfold br cz bN cy cx cv bY cu bX cr
    rcases hn with rfl | rfl
    · have n1 : decide ((4 : Int) = 4) = true := rfl
      simp only [n1, z1, y1, y2, wA, wB, wC, lR, uD, kf, i0, l0, w3, w4, w5, y3, y4, k11, aI, Bool.and_self, ai, bI, bT, ag, al]
    · have n1 : decide ((6 : Int) = 4) = false := rfl
      have n2 : decide ((6 : Int) = 6) = true := rfl
      simp only [n1, n2, z1, y1, y2, wA, wB, wC, lR, uD, kf, i0, l0, w3, w4, w5, y3, y4, k11, aI, Bool.and_self, ai, bI, bT, ag, al]
  · unfold bq cq bW cm cj
    rcases hn with rfl | rfl
    · have n1 : decide ((4 : Int) = 4) = true := rfl
      simp only [n1, z2, y5, y6, y7, mE, oc, i0, l0, w1, w2, w3, w4, w5, w6, w7, y4, k0, k11, nZ, k13, aI, Bool.and_self, ai, bI, bT, ag, al]
    · have n1 : decide ((6 : Int) = 4) = false := rfl
      have n2 : decide ((6 : Int) = 6) = true := rfl
      simp only [n1, n2, z2, y5, y6, y7, mE, oc, i0, l0, w1, w2, w3, w4, w5, w6, w7, y4, k0, k11, nZ, k13, aI, Bool.and_self, ai, bI, bT, ag, al]
theorem Rl (k : Nat) (hk : MM < k) (h1 : 0 ≤ sp ∧ sp ≤ 65535) (h2 : 0 ≤ dp ∧ dp ≤ 65535) (h10 : 8 + b.length ≤ 1500) (hn : n = 4 ∨ n = 6) (hs : ns = true → n = 4) :
    br k (wV sp dp ns b) n = some ((true, ()), ()) ∧ bq (wV sp dp ns b) n = some ((true, ()), ()) := by
  obtain ⟨z1, z2⟩ := AL (sp := sp) (dp := dp) (ns := ns) (b := b) (by omega)
  have w1 := nd h1
  have w2 := nd h2
  have y1 : decide (8 + (b.length : Int) < 0) = false := ao (by omega)
  have y2 : decide (1500 < 8 + (b.length : Int)) = false := ao (by omega)
  have y6 : decide (0 ≤ 8 + (b.length : Int)) = true := ae (by omega)
  have y7 : decide (8 + (b.length : Int) ≤ 1500) = true := ae (by omega)
  have e0 : ((([] : List Int).length : Nat) : Int) = 0 := rfl
  have m0 : Int.tmod (0:Int) 4 = 0 := rfl
  have l40 : decide ((0:Int) ≤ 40) = true := rfl
  have k0 : decide ((0 : Int) = 0) = true := rfl
  have k11 : decide ((2 : Int) = 1) = false := rfl
  have nZ : decide ((2 : Int) = 2) = true := rfl
  have k13 : decide ((2 : Int) = 3) = false := rfl
  have i0 : gq 0 0 255 = true := rfl
  have i1 : gq 0 0 4095 = true := rfl
  have i2 : gq 0 0 65535 = true := rfl
  have l0 : dM 0 = true := rfl
  have wA := jl k hk [sp, dp] (by simp)
  have wB := jl k hk [(0:Int), 0] (by simp)
  have wC := kU k hk [(0:Int), 0, 0, 0, 0, 0, 0, 0, 0] (by simp)
  simp only [List.all_cons, List.all_nil, w1, w2, i2, aI, Bool.and_self] at wA wB wC
  constructor
  · unfold br cz bN cy cx cv bY cu bX cr
    rcases hn with rfl | rfl
    · have n1 : decide ((4 : Int) = 4) = true := rfl
      simp only [n1, z1, y1, y2, e0, wA, wB, wC, lR, uD, kf, i0, i1, l0, l40, k11, nZ, aI, Bool.and_self, ai, bI, bT, ag, al]
      cases ns <;> rfl
    · have n1 : decide ((6 : Int) = 4) = false := rfl
      have n2 : decide ((6 : Int) = 6) = true := rfl
      have hns : ns = false := by
        cases ns
        · rfl
        · exact absurd (hs rfl) (by decide)
      subst hns
      simp only [n1, n2, z1, y1, y2, e0, wA, wB, wC, lR, uD, kf, i0, i1, l0, l40, k11, nZ, aI, Bool.and_self, ai, bI, bT, ag, al]
  · unfold bq cq bW cm cj
    rcases hn with rfl | rfl
    · have n1 : decide ((4 : Int) = 4) = true := rfl
      simp only [n1, z2, y6, y7, e0, mE, oc, i0, l0, w1, w2, k0, k11, nZ, k13, aI, Bool.and_self, ai, bI, bT, ag, al]
      cases ns <;> rfl
    · have n1 : decide ((6 : Int) = 4) = false := rfl
      have n2 : decide ((6 : Int) = 6) = true := rfl
      have hns : ns = false := by
        cases ns
        · rfl
        · exact absurd (hs rfl) (by decide)
      subst hns
      simp only [n1, n2, z2, y6, y7, e0, mE, oc, i0, l0, w1, w2, k0, k11, nZ, k13, aI, Bool.and_self, ai, bI, bT, ag, al]
theorem Rm (k : Nat) (hk : MM < k) (h1 : 0 ≤ ty ∧ ty ≤ 255) (h2 : 0 ≤ cd ∧ cd ≤ 255) (h3 : 0 ≤ rs ∧ rs ≤ 4294967295) (h10 : 8 + b.length ≤ 1500) (hn : n = 4 ∨ n = 6) :
    br k (wW ty cd rs b) n = some ((true, ()), ()) ∧ bq (wW ty cd rs b) n = some ((true, ()), ()) := by
  obtain ⟨z1, z2⟩ := M8 (ty := ty) (cd := cd) (rs := rs) (b := b) (by omega)
  have w1 := nd h1
  have w2 := nd h2
  have w3 := uH h3
  have y1 : decide (8 + (b.length : Int) < 0) = false := ao (by omega)
  have y2 : decide (1500 < 8 + (b.length : Int)) = false := ao (by omega)
  have y6 : decide (0 ≤ 8 + (b.length : Int)) = true := ae (by omega)
  have y7 : decide (8 + (b.length : Int) ≤ 1500) = true := ae (by omega)
  have e0 : ((([] : List Int).length : Nat) : Int) = 0 := rfl
  have l40 : decide ((0:Int) ≤ 40) = true := rfl
  have k0 : decide ((0 : Int) = 0) = true := rfl
  have k11 : decide ((3 : Int) = 1) = false := rfl
  have nZ : decide ((3 : Int) = 2) = false := rfl
  have k13 : decide ((3 : Int) = 3) = true := rfl
  have i1 : gq 0 0 4095 = true := rfl
  have i2 : gq 0 0 65535 = true := rfl
  have l0 : dM 0 = true := rfl
  have wA := jl k hk [(0:Int), 0] (by simp)
  have wC := kU k hk [(0:Int), 0, 0, 0, 0, 0, 0, 0] (by simp)
  simp only [List.all_cons, List.all_nil, i2, aI, Bool.and_self] at wA wC
  constructor
  · unfold br cz bN cy cx cv bY cu bX cr
    rcases hn with rfl | rfl
    · have n1 : decide ((4 : Int) = 4) = true := rfl
      simp only [n1, z1, y1, y2, e0, wA, wC, lR, uD, kf, w1, w2, w3, i1, l0, l40, k11, nZ, k13, aI, Bool.and_self, ai, bI, bT, ag, al]
    · have n1 : decide ((6 : Int) = 4) = false := rfl
      have n2 : decide ((6 : Int) = 6) = true := rfl
      simp only [n1, n2, z1, y1, y2, e0, wA, wC, lR, uD, kf, w1, w2, w3, i1, l0, l40, k11, nZ, k13, aI, Bool.and_self, ai, bI, bT, ag, al]
  · unfold bq cq bW cm cj
    rcases hn with rfl | rfl
    · have n1 : decide ((4 : Int) = 4) = true := rfl
      simp only [n1, z2, y6, y7, e0, mE, oc, i2, w1, w2, w3, k0, k11, nZ, k13, aI, Bool.and_self, ai, bI, bT, ag, al]
    · have n1 : decide ((6 : Int) = 4) = false := rfl
      have n2 : decide ((6 : Int) = 6) = true := rfl
      simp only [n1, n2, z2, y6, y7, e0, mE, oc, i2, w1, w2, w3, k0, k11, nZ, k13, aI, Bool.and_self, ai, bI, bT, ag, al]
theorem Qw (k : Nat) (hk : MM < k) (h10 : b.length ≤ 1500) (hn : n = 4 ∨ n = 6) : br k (D7 b) n = some ((true, ()), ()) ∧ bq (D7 b) n = some ((true, ()), ()) := by
  obtain ⟨z1, z2⟩ := P1 (b := b) (by omega)
  have y1 : decide ((b.length : Int) < 0) = false := ao (by omega)
  have y2 : decide (1500 < (b.length : Int)) = false := ao (by omega)
  have y6 : decide (0 ≤ (b.length : Int)) = true := ae (by omega)
  have y7 : decide ((b.length : Int) ≤ 1500) = true := ae (by omega)
  have e0 : ((([] : List Int).length : Nat) : Int) = 0 := rfl
  have l40 : decide ((0:Int) ≤ 40) = true := rfl
  have k0 : decide ((0 : Int) = 0) = true := rfl
  have k11 : decide ((0 : Int) = 1) = false := rfl
  have nZ : decide ((0 : Int) = 2) = false := rfl
  have k13 : decide ((0 : Int) = 3) = false := rfl
  have i0 : gq 0 0 255 = true := rfl
  have i1 : gq 0 0 4095 = true := rfl
  have i2 : gq 0 0 65535 = true := rfl
  have l0 : dM 0 = true := rfl
  have wA := jl k hk [(0:Int), 0] (by simp)
  have wC := kU k hk [(0:Int), 0, 0, 0, 0, 0, 0, 0, 0, 0, 0] (by simp)
  simp only [List.all_cons, List.all_nil, i2, aI, Bool.and_self] at wA wC
  constructor
  · unfold br cz bN cy cx cv bY cu bX cr
    rcases hn with rfl | rfl
    · have n1 : decide ((4 : Int) = 4) = true := rfl
      simp only [n1, z1, y1, y2, e0, wA, wC, lR, uD, kf, i0, i1, l0, l40, k11, nZ, k13, aI, Bool.and_self, ai, bI, bT, ag, al]
    · have n1 : decide ((6 : Int) = 4) = false := rfl
      have n2 : decide ((6 : Int) = 6) = true := rfl
      simp only [n1, n2, z1, y1, y2, e0, wA, wC, lR, uD, kf, i0, i1, l0, l40, k11, nZ, k13, aI, Bool.and_self, ai, bI, bT, ag, al]
  · unfold bq cq bW cm cj
    rcases hn with rfl | rfl
    · have n1 : decide ((4 : Int) = 4) = true := rfl
      simp only [n1, z2, y6, y7, e0, oc, i2, k0, k11, nZ, k13, aI, Bool.and_self, ai, bI, bT, ag, al]
    · have n1 : decide ((6 : Int) = 4) = false := rfl
      have n2 : decide ((6 : Int) = 6) = true := rfl
      simp only [n1, n2, z2, y6, y7, e0, oc, i2, k0, k11, nZ, k13, aI, Bool.and_self, ai, bI, bT, ag, al]
end
end
section
set_option maxHeartbeats 8000000
theorem vT (k : Nat) (hk : MM < k) (l : List Int) (hb : az l) (hl : l.length ≤ 2000) : dR k l = some ((osum l 0, ()), ()) := by
  have hM : MM = 1048576 := rfl
  unfold dR
  have run := nK l hb (by omega) l.length 0 k 0 (by omega) (by omega) (by omega) (by omega)
  refine (congrArg (fun o => Option.bind o _) run).trans ?_
  simp only [ai, List.drop_zero]
theorem vU (k : Nat) (hk : MM < k) (l : List Int) (hb : az l) (hl : l.length ≤ 2000) : dw k l = some ((osum l 0, ()), ()) := by
  have hM : MM = 1048576 := rfl
  unfold dw
  rw [aK (ao (by omega))]
  have run := nJ l hb (by omega) l.length 0 k 0 (by omega) (by omega) (by omega) (by omega)
  refine (congrArg (fun o => Option.bind o _) run).trans ?_
  simp only [ai, List.drop_zero]
section
variable {sp dp sq ak bt wn ur ty cd rs : Int} {ns : Bool} {o b : List Int}
def x5 (sp dp sq ak bt wn ur : Int) (o b : List Int) : List Int :=
  putB sp 2 ++ (putB dp 2 ++ (putB sq 4 ++ (putB ak 4 ++ (putB (4096 * (5 + (o.length : Int) / 4) + bt) 2 ++ (putB wn 2 ++ (putB 0 2 ++ (putB ur 2 ++ (o ++ b))))))))
def wX (sp dp : Int) (b : List Int) : List Int := putB sp 2 ++ (putB dp 2 ++ (putB (8 + (b.length : Int)) 2 ++ (putB 0 2 ++ b)))
def vV (ty cd rs : Int) (b : List Int) : List Int := [ty % 256, cd % 256] ++ (putB 0 2 ++ (putB rs 4 ++ b))
theorem Jy (k : Nat) (hk : MM < k) (h5 : 0 ≤ bt ∧ bt ≤ 4095) (h8 : o.length ≤ 40) (h10 : b.length ≤ 1500) : aJ k (wU sp dp sq ak bt wn ur o b) 0 = some ((x5 sp dp sq ak bt wn ur o b, ()), ()) := by
  unfold aJ
  have w2 : Int.tdiv ((o.length : Int)) 4 = (o.length : Int) / 4 := Int.tdiv_eq_ediv_of_nonneg (by omega)
  have w3 : Wr .i64 ((o.length : Int) / 4) = (o.length : Int) / 4 := bL (by omega)
  have w4 : Wr .i64 (5 + (o.length : Int) / 4) = 5 + (o.length : Int) / 4 := bL (by omega)
  have w5 : Wr .i64 (4096 * (5 + (o.length : Int) / 4)) = 4096 * (5 + (o.length : Int) / 4) := bL (by omega)
  have w6 : Wr .i64 (4096 * (5 + (o.length : Int) / 4) + bt) = 4096 * (5 + (o.length : Int) / 4) + bt := bL (by omega)
  have c1 := kD k hk [putB sp 2, putB dp 2] (by simp) (by simp [aL])
  have c2 := kD k hk [putB sp 2 ++ putB dp 2, putB sq 4, putB ak 4, putB (4096 * (5 + (o.length : Int) / 4) + bt) 2, putB wn 2, putB 0 2, putB ur 2, o, b] (by simp) (by simp only [List.flatten_cons, List.flatten_nil, aT, List.length_nil, aL]; omega)
  simp only [List.flatten_cons, List.flatten_nil, List.append_nil] at c1 c2
  simp only [j9 k hk, lz k hk, w2, w3, w4, w5, w6, c1, c2, aI, ag, ai]
  unfold x5
  simp only [List.append_assoc]
theorem Jz (h5 : 0 ≤ bt ∧ bt ≤ 4095) (h8 : o.length ≤ 40) (h10 : b.length ≤ 1500) : bm (wU sp dp sq ak bt wn ur o b) 0 = some ((x5 sp dp sq ak bt wn ur o b, ()), ()) := by
  unfold bm cX
  have w2 : Int.tdiv ((o.length : Int)) 4 = (o.length : Int) / 4 := Int.tdiv_eq_ediv_of_nonneg (by omega)
  have w3 : Wr .i64 ((o.length : Int) / 4) = (o.length : Int) / 4 := bL (by omega)
  have w4 : Wr .i64 (5 + (o.length : Int) / 4) = 5 + (o.length : Int) / 4 := bL (by omega)
  have w5 : Wr .i64 (4096 * (5 + (o.length : Int) / 4)) = 4096 * (5 + (o.length : Int) / 4) := bL (by omega)
  have w6 : Wr .i64 (4096 * (5 + (o.length : Int) / 4) + bt) = 4096 * (5 + (o.length : Int) / 4) + bt := bL (by omega)
  simp only [jk, lA, w2, w3, w4, w5, w6, aI, bI, ag, al, ai, aL, aT]
  repeat (refine (aw (ae (by omega))).trans ?_)
  unfold x5
  simp only [List.append_assoc]
theorem JA (k : Nat) (hk : MM < k) (h10 : b.length ≤ 1500) : aJ k (wV sp dp ns b) 0 = some ((wX sp dp b, ()), ()) := by
  unfold aJ
  have k1 : decide ((2 : Int) = 1) = false := rfl
  have z := (AL (sp := sp) (dp := dp) (ns := ns) (b := b) (by omega)).1
  have c1 := kD k hk [putB sp 2, putB dp 2] (by simp) (by simp [aL])
  have c2 := kD k hk [putB sp 2 ++ putB dp 2, putB (8 + (b.length : Int)) 2, putB 0 2, b] (by simp) (by simp only [List.flatten_cons, List.flatten_nil, aT, List.length_nil, aL]; omega)
  simp only [List.flatten_cons, List.flatten_nil, List.append_nil] at c1 c2
  simp only [j9 k hk, lz k hk, k1, z, c1, c2, aI, ag, al, ai]
  unfold wX
  simp only [List.append_assoc]
theorem JB (h10 : b.length ≤ 1500) : bm (wV sp dp ns b) 0 = some ((wX sp dp b, ()), ()) := by
  unfold bm cX
  have k1 : decide ((2 : Int) = 1) = false := rfl
  have z := (AL (sp := sp) (dp := dp) (ns := ns) (b := b) (by omega)).2
  simp only [jk, lA, k1, z, aI, bI, bT, ag, al, ai, aL, aT]
  repeat (refine (aw (ae (by omega))).trans ?_)
  unfold wX
  simp only [List.append_assoc]
theorem JC (k : Nat) (hk : MM < k) (h10 : b.length ≤ 1500) : aJ k (wW ty cd rs b) 0 = some ((vV ty cd rs b, ()), ()) := by
  unfold aJ
  have k1 : decide ((3 : Int) = 1) = false := rfl
  have k2 : decide ((3 : Int) = 2) = false := rfl
  have c1 := kD k hk [putB 0 2, putB 0 2] (by simp) (by simp [aL])
  have c2 := kD k hk [[ty % 256, cd % 256], putB 0 2, putB rs 4, b] (by simp) (by simp only [List.flatten_cons, List.flatten_nil, aT, List.length_cons, List.length_nil, aL]; omega)
  simp only [List.flatten_cons, List.flatten_nil, List.append_nil] at c1 c2
  simp only [j9 k hk, lz k hk, lF, k1, k2, c1, c2, aI, ag, al, ai]
  rfl
theorem JD (h10 : b.length ≤ 1500) : bm (wW ty cd rs b) 0 = some ((vV ty cd rs b, ()), ()) := by
  unfold bm cX
  have k1 : decide ((3 : Int) = 1) = false := rfl
  have k2 : decide ((3 : Int) = 2) = false := rfl
  simp only [jk, lA, lF, k1, k2, aI, bI, bT, ag, al, ai, aL, aT, List.length_cons, List.length_nil]
  repeat (refine (aw (ae (by omega))).trans ?_)
  unfold vV
  simp only [List.append_assoc]
end
theorem aE {a b : List Int} (ha : az a) (hb : az b) : az (a ++ b) := fun x hx => by
  rcases List.mem_append.1 hx with h | h
  · exact ha x h
  · exact hb x h
theorem rJ {sp dp sq ak bt wn ur : Int} {o b : List Int} (ho : az o) (hb : az b) : az (x5 sp dp sq ak bt wn ur o b) :=
  aE (aC _ _) (aE (aC _ _) (aE (aC _ _) (aE (aC _ _) (aE (aC _ _) (aE (aC _ _) (aE (aC _ _) (aE (aC _ _) (aE ho hb))))))))
theorem rK {sp dp : Int} {b : List Int} (hb : az b) : az (wX sp dp b) :=
  aE (aC _ _) (aE (aC _ _) (aE (aC _ _) (aE (aC _ _) hb)))
theorem nI (x y : Int) : az [x % 256, y % 256] := fun b hb => by
  simp only [List.mem_cons, List.not_mem_nil, or_false] at hb
  rcases hb with rfl | rfl <;> omega
theorem oy {ty cd rs : Int} {b : List Int} (hb : az b) : az (vV ty cd rs b) :=
  aE (nI _ _) (aE (aC _ _) (aE (aC _ _) hb))
def oS (s d : ar) (p n : Int) : List Int := bif decide (s.1 = 6) then au s ++ (au d ++ (putB n 4 ++ [0, 0, 0, p % 256])) else au s ++ (au d ++ ([0, p % 256] ++ putB n 2))
theorem iY (s d : ar) (p n : Int) : az (oS s d p n) := by
  have h2 : az [0, p % 256] := fun b hb => by
    simp only [List.mem_cons, List.not_mem_nil, or_false] at hb
    rcases hb with rfl | rfl <;> omega
  have h4 : az [0, 0, 0, p % 256] := fun b hb => by
    simp only [List.mem_cons, List.not_mem_nil, or_false] at hb
    rcases hb with rfl | rfl | rfl | rfl <;> omega
  unfold oS
  cases decide (s.1 = 6)
  · exact aE (de _) (aE (de _) (aE h2 (aC _ _)))
  · exact aE (de _) (aE (de _) (aE (aC _ _) h4))
theorem zr (s d : ar) (p n : Int) : (oS s d p n).length ≤ 40 := by
  have a1 := bV s
  have a2 := bV d
  unfold oS
  cases decide (s.1 = 6) <;> simp only [ag, al, aT, List.length_cons, List.length_nil, aL] <;> omega
theorem JE (k : Nat) (hk : MM < k) (s d : ar) (p n : Int) : gV k s d p n = some ((osum (oS s d p n) 0, ()), ()) := by
  have a1 := bV s
  have a2 := bV d
  have hb := iY s d p n
  have hl := zr s d p n
  unfold gV
  have c1 := kD k hk [[0, p % 256], putB n 2] (by simp) (by simp [aL])
  have c2 := kD k hk [putB n 4, [0, 0, 0, p % 256]] (by simp) (by simp [aL])
  have c3 := kD k hk [au s, au d, putB n 4 ++ [0, 0, 0, p % 256]] (by simp) (by simp only [List.flatten_cons, List.flatten_nil, aT, List.length_cons, List.length_nil, aL]; omega)
  have c4 := kD k hk [au s, au d, [0, p % 256] ++ putB n 2] (by simp) (by simp only [List.flatten_cons, List.flatten_nil, aT, List.length_cons, List.length_nil, aL]; omega)
  simp only [List.flatten_cons, List.flatten_nil, List.append_nil] at c1 c2 c3 c4
  unfold oS at hb hl ⊢
  cases h : decide (s.1 = 6)
  · rw [h] at hb hl
    simp only [al] at hb hl
    simp only [j9 k hk, lz k hk, lF, c1, nM k hk, c4, vT k hk _ hb (by omega), ai, al]
  · rw [h] at hb hl
    simp only [ag] at hb hl
    simp only [j9 k hk, lz k hk, lF, c1, c2, nM k hk, c3, vT k hk _ hb (by omega), ai, ag]
def iw (s d : ar) : Bool := bO s && (bO d && decide (s.1 = d.1))
theorem vW (s d : ar) : kr s d = some ((iw s d, ()), ()) := by
  unfold kr iw
  simp only [vP, ai]
  cases bO s <;> cases bO d <;> rfl
theorem jm (s d : ar) : ij s d = some ((iw s d, ()), ()) := by
  unfold ij iw
  simp only [rb, ai]
  cases bO s <;> cases bO d <;> rfl
theorem jC {s d : ar} (h : iw s d = true) : s.1 = 4 ∨ s.1 = 6 := by
  unfold iw bO at h
  by_cases h4 : s.1 = 4
  · exact .inl h4
  · right
    rw [ao h4] at h
    simp only [al, aA, bF] at h
    exact h.1.1
theorem JF (k : Nat) (hk : MM < k) (s d : ar) (p n : Int) (hp : iw s d = true) (h1 : 0 ≤ p ∧ p ≤ 255) (h2 : 0 ≤ n ∧ n ≤ 1500) : fW k s d p n = some ((osum (oS s d p n) 0, ()), ()) := by
  have a1 := bV s
  have a2 := bV d
  have hb := iY s d p n
  have hl := zr s d p n
  unfold fW
  have i1 := nd h1
  have i2 := nd h2
  unfold oS at hb hl ⊢
  rcases jC hp with h | h
  · have e4 : decide (s.1 = 4) = true := ae h
    have e6 : decide (s.1 = 6) = false := ao (by omega)
    rw [e6] at hb hl ⊢
    simp only [al] at hb hl ⊢
    simp only [jm, hp, oc, i1, i2, kC, jk, lF, e4, aL, aT, List.length_cons, List.length_nil, ai, bI, bT, ag, al]
    repeat (refine (aw (ae (by omega))).trans ?_)
    rw [show ((au s ++ au d) ++ [0, p % 256]) ++ putB n 2 = au s ++ (au d ++ ([0, p % 256] ++ putB n 2)) by simp only [List.append_assoc], vU k hk _ hb (by omega)]
    rfl
  · have e4 : decide (s.1 = 4) = false := ao (by omega)
    have e6 : decide (s.1 = 6) = true := ae h
    rw [e6] at hb hl ⊢
    simp only [ag] at hb hl ⊢
    simp only [jm, hp, oc, i1, i2, kC, lA, lF, e4, aL, aT, List.length_cons, List.length_nil, ai, bI, bT, ag, al]
    repeat (refine (aw (ae (by omega))).trans ?_)
    rw [show ((au s ++ au d) ++ putB n 4) ++ [0, 0, 0, p % 256] = au s ++ (au d ++ (putB n 4 ++ [0, 0, 0, p % 256])) by simp only [List.append_assoc], vU k hk _ hb (by omega)]
    rfl
end
section
set_option maxHeartbeats 8000000
theorem Gu {sp dp sq ak bt wn ur : Int} {o b : List Int} : (x5 sp dp sq ak bt wn ur o b).length = 20 + o.length + b.length := by
  unfold x5; simp only [aT, aL]; omega
theorem Gv {sp dp : Int} {b : List Int} : (wX sp dp b).length = 8 + b.length := by
  unfold wX; simp only [aT, aL]; omega
theorem Gw {ty cd rs : Int} {b : List Int} : (vV ty cd rs b).length = 8 + b.length := by
  unfold vV; simp only [aT, List.length_cons, List.length_nil, aL]; omega
def qK (p : List Int) (e : List Int) : Int := 65535 - sm (osum p 0) (osum e 0)
theorem vi {l : List Int} (h : az l) : 0 ≤ osum l 0 ∧ osum l 0 ≤ 65535 := nb l 0 h (by omega)
theorem nO {p e : List Int} (hp : az p) (he : az e) : 0 ≤ qK p e ∧ qK p e ≤ 65535 := by
  have := mg (vi hp) (vi he)
  unfold qK; omega
section
variable {sp dp sq ak bt wn ur ty cd rs : Int} {ns : Bool} {o b : List Int} {s d : ar}
theorem M9 (k : Nat) (hk : MM < k) (hs : iw s d = true) (h1 : 0 ≤ sp ∧ sp ≤ 65535) (h2 : 0 ≤ dp ∧ dp ≤ 65535) (h3 : 0 ≤ sq ∧ sq ≤ 4294967295) (h4 : 0 ≤ ak ∧ ak ≤ 4294967295) (h5 : 0 ≤ bt ∧ bt ≤ 4095) (h6 : 0 ≤ wn ∧ wn ≤ 65535) (h7 : 0 ≤ ur ∧ ur ≤ 65535) (h8 : o.length ≤ 40) (h9 : o.length % 4 = 0) (h10 : 20 + o.length + b.length ≤ 1500) (ho : az o) (hb : az b) :
    bS k (wU sp dp sq ak bt wn ur o b) s d = some ((qK (oS s d 6 (20 + (o.length : Int) + (b.length : Int))) (x5 sp dp sq ak bt wn ur o b), ()), ()) ∧
    ba k (wU sp dp sq ak bt wn ur o b) s d = some ((qK (oS s d 6 (20 + (o.length : Int) + (b.length : Int))) (x5 sp dp sq ak bt wn ur o b), ()), ()) := by
  obtain ⟨z1, z2⟩ := M7 (sp := sp) (dp := dp) (sq := sq) (ak := ak) (bt := bt) (wn := wn) (ur := ur) (o := o) (b := b) (by omega)
  obtain ⟨q1, q2⟩ := Rk k hk h1 h2 h3 h4 h5 h6 h7 h8 h9 h10 (jC hs)
  have pb := iY s d 6 (20 + (o.length : Int) + (b.length : Int))
  have eb := rJ (sp := sp) (dp := dp) (sq := sq) (ak := ak) (bt := bt) (wn := wn) (ur := ur) ho hb
  have el := Gu (sp := sp) (dp := dp) (sq := sq) (ak := ak) (bt := bt) (wn := wn) (ur := ur) (o := o) (b := b)
  have k0 : decide ((1 : Int) = 0) = false := rfl
  have k2 : decide ((1 : Int) = 2) = false := rfl
  have k3 : decide ((1 : Int) = 3) = false := rfl
  have g : iI (mget (.int .i64) (.int .i64) ([((1:Int), (6:Int)), ((2:Int), (17:Int)), ((3:Int), (58:Int))] : List (Int × Int)) (1:Int)) = 6 := rfl
  have hur := nO pb eb
  have w : Wr .i64 (65535 - sm (osum (oS s d 6 (20 + (o.length : Int) + (b.length : Int))) 0) (osum (x5 sp dp sq ak bt wn ur o b) 0)) = qK (oS s d 6 (20 + (o.length : Int) + (b.length : Int))) (x5 sp dp sq ak bt wn ur o b) := bL (n := qK _ _) (by omega)
  constructor
  · unfold bS
    simp only [vW, hs, q1, k0, k2, k3, z1, g, JE k hk, Jy k hk h5 h8 (by omega : b.length ≤ 1500), vT k hk _ eb (by omega), AH (vi pb) (vi eb), w, ai, bI, bT, ag, al]
  · unfold ba
    simp only [jm, hs, q2, k0, k2, k3, z2, JF k hk s d 6 _ hs (by omega) (by omega : 0 ≤ 20 + (o.length : Int) + (b.length : Int) ∧ 20 + (o.length : Int) + (b.length : Int) ≤ 1500), Jz h5 h8 (by omega : b.length ≤ 1500), vU k hk _ eb (by omega), AI (vi pb) (vi eb), w, aI, ai, bI, bT, ag, al]
    cases decide (qK (oS s d 6 (20 + (o.length : Int) + (b.length : Int))) (x5 sp dp sq ak bt wn ur o b) = 0) <;> rfl
def AM (v : Int) : Int := bif decide (v = 0) then 65535 else v
theorem Na (k : Nat) (hk : MM < k) (hs : iw s d = true) (h1 : 0 ≤ sp ∧ sp ≤ 65535) (h2 : 0 ≤ dp ∧ dp ≤ 65535) (h10 : 8 + b.length ≤ 1500) (hb : az b) (hns : ns = true → s.1 = 4) :
    bS k (wV sp dp ns b) s d = some ((bif ns then 0 else AM (qK (oS s d 17 (8 + (b.length : Int))) (wX sp dp b)), ()), ()) ∧
    ba k (wV sp dp ns b) s d = some ((bif ns then 0 else AM (qK (oS s d 17 (8 + (b.length : Int))) (wX sp dp b)), ()), ()) := by
  obtain ⟨z1, z2⟩ := AL (sp := sp) (dp := dp) (ns := ns) (b := b) (by omega)
  obtain ⟨q1, q2⟩ := Rl (b := b) k hk h1 h2 h10 (jC hs) hns
  have pb := iY s d 17 (8 + (b.length : Int))
  have eb := rK (sp := sp) (dp := dp) hb
  have el := Gv (sp := sp) (dp := dp) (b := b)
  have k0 : decide ((2 : Int) = 0) = false := rfl
  have k1 : decide ((2 : Int) = 1) = false := rfl
  have k3 : decide ((2 : Int) = 3) = false := rfl
  have g : iI (mget (.int .i64) (.int .i64) ([((1:Int), (6:Int)), ((2:Int), (17:Int)), ((3:Int), (58:Int))] : List (Int × Int)) (2:Int)) = 17 := rfl
  have hur := nO pb eb
  have w : Wr .i64 (65535 - sm (osum (oS s d 17 (8 + (b.length : Int))) 0) (osum (wX sp dp b) 0)) = qK (oS s d 17 (8 + (b.length : Int))) (wX sp dp b) := bL (n := qK _ _) (by omega)
  unfold AM
  constructor
  · unfold bS
    simp only [vW, hs, q1, k0, k1, k3, z1, g, JE k hk, JA k hk (by omega : b.length ≤ 1500), vT k hk _ eb (by omega), AH (vi pb) (vi eb), w, aI, ai, bI, bT, ag, al]
    cases ns <;> cases decide (qK (oS s d 17 (8 + (b.length : Int))) (wX sp dp b) = 0) <;> rfl
  · unfold ba
    simp only [jm, hs, q2, k0, k1, k3, z2, JF k hk s d 17 _ hs (by omega) (by omega : 0 ≤ 8 + (b.length : Int) ∧ 8 + (b.length : Int) ≤ 1500), JB (by omega : b.length ≤ 1500), vU k hk _ eb (by omega), AI (vi pb) (vi eb), w, aI, ai, bI, bT, ag, al]
    cases ns <;> cases decide (qK (oS s d 17 (8 + (b.length : Int))) (wX sp dp b) = 0) <;> rfl
def Gx (s d : ar) (n : Int) (e : List Int) : Int := bif decide (s.1 = 6) then qK (oS s d 58 n) e else 65535 - sm 0 (osum e 0)
theorem Ix (k : Nat) (hk : MM < k) (hs : iw s d = true) (h1 : 0 ≤ ty ∧ ty ≤ 255) (h2 : 0 ≤ cd ∧ cd ≤ 255) (h3 : 0 ≤ rs ∧ rs ≤ 4294967295) (h10 : 8 + b.length ≤ 1500) (hb : az b) :
    bS k (wW ty cd rs b) s d = some ((Gx s d (8 + (b.length : Int)) (vV ty cd rs b), ()), ()) ∧
    ba k (wW ty cd rs b) s d = some ((Gx s d (8 + (b.length : Int)) (vV ty cd rs b), ()), ()) := by
  obtain ⟨z1, z2⟩ := M8 (ty := ty) (cd := cd) (rs := rs) (b := b) (by omega)
  obtain ⟨q1, q2⟩ := Rm (b := b) k hk h1 h2 h3 h10 (jC hs)
  have pb := iY s d 58 (8 + (b.length : Int))
  have eb := oy (ty := ty) (cd := cd) (rs := rs) hb
  have el := Gw (ty := ty) (cd := cd) (rs := rs) (b := b)
  have k0 : decide ((3 : Int) = 0) = false := rfl
  have k1 : decide ((3 : Int) = 1) = false := rfl
  have k2 : decide ((3 : Int) = 2) = false := rfl
  have g : iI (mget (.int .i64) (.int .i64) ([((1:Int), (6:Int)), ((2:Int), (17:Int)), ((3:Int), (58:Int))] : List (Int × Int)) (3:Int)) = 58 := rfl
  have hur := nO pb eb
  have r0 := mg (a := 0) (by omega) (vi eb)
  have w : Wr .i64 (65535 - sm (osum (oS s d 58 (8 + (b.length : Int))) 0) (osum (vV ty cd rs b) 0)) = qK (oS s d 58 (8 + (b.length : Int))) (vV ty cd rs b) := bL (n := qK _ _) (by omega)
  have w0 : Wr .i64 (65535 - sm 0 (osum (vV ty cd rs b) 0)) = 65535 - sm 0 (osum (vV ty cd rs b) 0) := bL (by omega)
  have s0 := AH (a := 0) (by omega) (vi eb)
  have s1 := AI (a := 0) (by omega) (vi eb)
  unfold Gx
  constructor
  · unfold bS
    simp only [vW, hs, q1, k0, k1, k2, z1, g, JE k hk, JC k hk (by omega : b.length ≤ 1500), vT k hk _ eb (by omega), AH (vi pb) (vi eb), s0, w, w0, aI, ai, bI, bT, ag, al]
    cases decide (s.1 = 6) <;> rfl
  · unfold ba
    simp only [jm, hs, q2, k0, k1, k2, z2, JF k hk s d 58 _ hs (by omega) (by omega : 0 ≤ 8 + (b.length : Int) ∧ 8 + (b.length : Int) ≤ 1500), JD (by omega : b.length ≤ 1500), vU k hk _ eb (by omega), AI (vi pb) (vi eb), s1, w, w0, aI, ai, bI, bT, ag, al]
    cases decide (s.1 = 6)
    · cases decide (65535 - sm 0 (osum (vV ty cd rs b) 0) = 0) <;> rfl
    · cases decide (qK (oS s d 58 (8 + (b.length : Int))) (vV ty cd rs b) = 0) <;> rfl
theorem P2 (k : Nat) (hk : MM < k) (hs : iw s d = true) (h10 : b.length ≤ 1500) : bS k (D7 b) s d = some ((0, ()), ()) := by
  obtain ⟨q1, q2⟩ := Qw (b := b) k hk h10 (jC hs)
  unfold bS
  simp only [vW, hs, q1, aI, ai, bI, bT, ag, al]
end
end
section
set_option maxHeartbeats 8000000
def ln (p v : Int) : Int := bif decide (p = 6) then 1 else bif decide (p = 17) then 2 else bif decide (p = 1) && decide (v = 4) then 3 else bif decide (p = 58) && decide (v = 6) then 3 else 0
theorem x7 (p v : Int) : ln p v = 0 ∨ ln p v = 1 ∨ ln p v = 2 ∨ ln p v = 3 := by
  unfold ln
  cases decide (p = 6)
  · cases decide (p = 17)
    · cases (decide (p = 1) && decide (v = 4))
      · cases (decide (p = 58) && decide (v = 6))
        · exact .inl rfl
        · exact .inr (.inr (.inr rfl))
      · exact .inr (.inr (.inr rfl))
    · exact .inr (.inr (.inl rfl))
  · exact .inr (.inl rfl)
theorem Rn (p v : Int) (hp : gq p 0 255 = true) (hv : v = 4 ∨ v = 6) : eZ p v = some ((ln p v, ()), ()) := by
  unfold eZ ln
  simp only [kf, hp, ai, bI, bT, ag, bn]
  rcases hv with rfl | rfl <;> cases decide (p = 6) <;> cases decide (p = 17) <;> cases decide (p = 1) <;> cases decide (p = 58) <;> rfl
theorem D8 (p v : Int) (hp : gq p 0 255 = true) (hv : v = 4 ∨ v = 6) : db p v = some ((ln p v, ()), ()) := by
  unfold db ln
  simp only [oc, hp, ai, bI, bT, ag, bn]
  rcases hv with rfl | rfl <;> cases decide (p = 6) <;> cases decide (p = 17) <;> cases decide (p = 1) <;> cases decide (p = 58) <;> rfl
abbrev w2 (d : List Int) (i : Nat) : Int := df ((d.drop i).take 2)
abbrev w4 (d : List Int) (i : Nat) : Int := df ((d.drop i).take 4)
def hT (d : List Int) : Nat := (4 * (d.getD 12 0 / 16)).toNat
def Kw (d : List Int) (h : Nat) : aF := wU (w2 d 0) (w2 d 2) (w4 d 4) (w4 d 8) (w2 d 12 % 4096) (w2 d 14) (w2 d 18) ((d.drop 20).take (h - 20)) (d.drop h)
def Nb (d : List Int) (s t : ar) (h : Nat) : Int := qK (oS s t 6 (20 + ((((d.drop 20).take (h - 20)).length : Nat) : Int) + (((d.drop h).length : Nat) : Int))) (x5 (w2 d 0) (w2 d 2) (w4 d 4) (w4 d 8) (w2 d 12 % 4096) (w2 d 14) (w2 d 18) ((d.drop 20).take (h - 20)) (d.drop h))
def P3 (d : List Int) (s t : ar) : aF × Int :=
  bif decide (d.length < 20) then (pI, 3) else bif decide (hT d < 20) then (pI, 4) else bif decide (d.length < hT d) then (pI, 4) else
  bif decide (w2 d 16 = Nb d s t (hT d)) then (Kw d (hT d), 0) else (pI, 6)
def Kx (d : List Int) (ns : Bool) : aF := wV (w2 d 0) (w2 d 2) ns (d.drop 8)
def Nc (d : List Int) (s t : ar) (ns : Bool) : Int := bif ns then 0 else AM (qK (oS s t 17 (8 + (((d.drop 8).length : Nat) : Int))) (wX (w2 d 0) (w2 d 2) (d.drop 8)))
def Nd (d : List Int) (s : ar) : Bool := decide (s.1 = 4) && decide (w2 d 6 = 0)
def P4 (d : List Int) (s t : ar) : aF × Int :=
  bif decide (d.length < 8) then (pI, 3) else bif decide (w2 d 4 = (d.length : Int)) then
  bif decide (w2 d 6 = Nc d s t (Nd d s)) then (Kx d (Nd d s), 0) else (pI, 6) else (pI, 5)
def Ky (d : List Int) : aF := wW (d.getD 0 0) (d.getD 1 0) (w4 d 4) (d.drop 8)
def Nf (d : List Int) (s t : ar) : Int := Gx s t (8 + (((d.drop 8).length : Nat) : Int)) (vV (d.getD 0 0) (d.getD 1 0) (w4 d 4) (d.drop 8))
def JG (d : List Int) (s t : ar) : aF × Int :=
  bif decide (d.length < 8) then (pI, 3) else bif decide (w2 d 2 = Nf d s t) then (Ky d, 0) else (pI, 6)
def oT (d : List Int) (p : Int) (s t : ar) : aF × Int :=
  bif decide (1500 < d.length) then (pI, 1) else bif iw s t && gq p 0 255 then
  bif decide (ln p s.1 = 1) then P3 d s t else bif decide (ln p s.1 = 2) then P4 d s t else bif decide (ln p s.1 = 3) then JG d s t else (D7 d, 0)
  else (pI, 2)
section
variable (k : Nat) (hk : MM < k) (d : List Int) (hb : az d) (hl : d.length ≤ 1500) (s t : ar) (hs : iw s t = true)
include hk hb hl hs
theorem Ro (h : Nat) (h1 : 20 ≤ h) (h3 : h ≤ 60) (h4 : h % 4 = 0) (h2 : h ≤ d.length) :
    bS k (Kw d h) s t = some ((Nb d s t h, ()), ()) ∧ ba k (Kw d h) s t = some ((Nb d s t h, ()), ()) := by
  have l1 : ((d.drop 20).take (h - 20)).length = h - 20 := by rw [List.length_take, List.length_drop]; omega
  have l2 : (d.drop h).length = d.length - h := List.length_drop
  exact M9 k hk hs (iU hb 0) (iU hb 2) (jP hb 4) (jP hb 8) (by omega) (iU hb 14) (iU hb 18) (by omega) (by omega) (by omega) (ey hb 20 (h - 20)) (fun x hx => hb x (List.mem_of_mem_drop hx))
theorem Rp (ns : Bool) (h2 : 8 ≤ d.length) (hns : ns = true → s.1 = 4) :
    bS k (Kx d ns) s t = some ((Nc d s t ns, ()), ()) ∧ ba k (Kx d ns) s t = some ((Nc d s t ns, ()), ()) := by
  have l2 : (d.drop 8).length = d.length - 8 := List.length_drop
  exact Na k hk hs (iU hb 0) (iU hb 2) (by omega) (fun x hx => hb x (List.mem_of_mem_drop hx)) hns
theorem Rq (h2 : 8 ≤ d.length) :
    bS k (Ky d) s t = some ((Nf d s t, ()), ()) ∧ ba k (Ky d) s t = some ((Nf d s t, ()), ()) := by
  have l2 : (d.drop 8).length = d.length - 8 := List.length_drop
  exact Ix k hk hs (hb _ (cb d 0 0 (by omega))) (hb _ (cb d 0 1 (by omega))) (jP hb 4) (by omega) (fun x hx => hb x (List.mem_of_mem_drop hx))
end
end
end Go.Tw
