/- Facts on mirrors. -/
import Derived.Test.YtemcbhjheebnnaaGreatPq5
import Derived.Test.YtemcbhjheebnnaaGreatPp9
set_option linter.all false
set_option maxRecDepth 100000
namespace Go.Tw
open Go Go.RowKit
open Go.IntKind renaming wrap → Wr
section
set_option maxHeartbeats 8000000
abbrev uO (u : aF) : List Int := u.2.2.2.2.2.2.2.2.2.2.2.2.1
abbrev uB (u : aF) : List Int := u.2.2.2.2.2.2.2.2.2.2.2.2.2.1
section
variable (sp dp sq ak bt wn ur ty cd rs n : Int) (ns : Bool) (o b : List Int)
def ya : Bool := gq sp 0 65535 && (gq dp 0 65535 && (dM sq && (dM ak && (gq bt 0 4095 && (gq wn 0 65535 && (gq ur 0 65535 && (decide ((o.length : Int) ≤ 40) && (decide (Int.tmod (o.length : Int) 4 = 0) && (decide (ty = 0) && (decide (cd = 0) && (decide (rs = 0) && (!ns && decide (20 + (o.length : Int) + (b.length : Int) ≤ 1500)))))))))))))
def yb : Bool := gq sp 0 65535 && (gq dp 0 65535 && (decide (sq = 0) && (decide (ak = 0) && (decide (bt = 0) && (decide (wn = 0) && (decide (ur = 0) && (decide ((o.length : Int) = 0) && (decide (ty = 0) && (decide (cd = 0) && (decide (rs = 0) && ((!ns || decide (n = 4)) && decide (8 + (b.length : Int) ≤ 1500))))))))))))
def yc : Bool := decide (sp = 0) && (decide (dp = 0) && (decide (sq = 0) && (decide (ak = 0) && (decide (bt = 0) && (decide (wn = 0) && (decide (ur = 0) && (decide ((o.length : Int) = 0) && (gq ty 0 255 && (gq cd 0 255 && (dM rs && (!ns && decide (8 + (b.length : Int) ≤ 1500))))))))))))
def yd : Bool := decide (sp = 0) && (decide (dp = 0) && (decide (sq = 0) && (decide (ak = 0) && (decide (bt = 0) && (decide (wn = 0) && (decide (ur = 0) && (decide ((o.length : Int) = 0) && (decide (ty = 0) && (decide (cd = 0) && (decide (rs = 0) && (!ns && decide ((b.length : Int) ≤ 1500))))))))))))
variable {sp dp sq ak bt wn ur ty cd rs n} {ns} {o b}
theorem jD (x c : Int) : decide (c < x) = !decide (x ≤ c) := by
  by_cases h : x ≤ c
  · rw [ae h, ao (by omega)]; rfl
  · rw [ao h, ae (by omega)]; rfl
theorem oU {α : Type} (b : Bool) (X : α) : (bif b then X else X) = X := by cases b <;> rfl
theorem Rt (h : o.length ≤ 1100000 ∧ b.length ≤ 1100000) : aS (1, sp, dp, sq, ak, bt, wn, ur, ty, cd, rs, ns, o, b, ()) = some ((20 + (o.length : Int) + (b.length : Int), ()), ()) ∧ aM (1, sp, dp, sq, ak, bt, wn, ur, ty, cd, rs, ns, o, b, ()) = some ((20 + (o.length : Int) + (b.length : Int), ()), ()) := by
  have w1 : Wr .i64 (20 + (o.length : Int)) = 20 + (o.length : Int) := bL (by omega)
  have w2 : Wr .i64 (20 + (o.length : Int) + (b.length : Int)) = 20 + (o.length : Int) + (b.length : Int) := bL (by omega)
  constructor
  · unfold aS cK; simp [w1, w2]
  · unfold aM; simp [w1, w2]
theorem Ru (h : b.length ≤ 1100000) : aS (2, sp, dp, sq, ak, bt, wn, ur, ty, cd, rs, ns, o, b, ()) = some ((8 + (b.length : Int), ()), ()) ∧ aM (2, sp, dp, sq, ak, bt, wn, ur, ty, cd, rs, ns, o, b, ()) = some ((8 + (b.length : Int), ()), ()) := by
  have w2 : Wr .i64 (8 + (b.length : Int)) = 8 + (b.length : Int) := bL (by omega)
  constructor
  · unfold aS cK; simp [w2]
  · unfold aM; simp [w2]
theorem Rv (h : b.length ≤ 1100000) : aS (3, sp, dp, sq, ak, bt, wn, ur, ty, cd, rs, ns, o, b, ()) = some ((8 + (b.length : Int), ()), ()) ∧ aM (3, sp, dp, sq, ak, bt, wn, ur, ty, cd, rs, ns, o, b, ()) = some ((8 + (b.length : Int), ()), ()) := by
  have w2 : Wr .i64 (8 + (b.length : Int)) = 8 + (b.length : Int) := bL (by omega)
  constructor
  · unfold aS cK; simp [w2]
  · unfold aM; simp [w2]
theorem Rw (h : b.length ≤ 1100000) : aS (0, sp, dp, sq, ak, bt, wn, ur, ty, cd, rs, ns, o, b, ()) = some (((b.length : Int), ()), ()) ∧ aM (0, sp, dp, sq, ak, bt, wn, ur, ty, cd, rs, ns, o, b, ()) = some (((b.length : Int), ()), ()) := by
  have w3 : Wr .i64 (b.length : Int) = (b.length : Int) := bL (by omega)
  constructor
  · unfold aS cK; simp [w3]
  · unfold aM; simp
theorem Rx {kd : Int} (h0 : kd ≠ 0) (h1 : kd ≠ 1) (h2 : kd ≠ 2) (h3 : kd ≠ 3) : aS (kd, sp, dp, sq, ak, bt, wn, ur, ty, cd, rs, ns, o, b, ()) = some ((-1, ()), ()) ∧ aM (kd, sp, dp, sq, ak, bt, wn, ur, ty, cd, rs, ns, o, b, ()) = some ((-1, ()), ()) := by
  constructor
  · unfold aS cK; simp [h0, h1, h2, h3]
  · unfold aM; simp [h0, h1, h2, h3]
theorem AN {a b : Bool} (h : a = b) : some ((a, ()), ()) = some ((b, ()), ()) := by rw [h]
theorem Ry (k : Nat) (hk : MM < k) (h : o.length ≤ 1100000 ∧ b.length ≤ 1100000) (hn : n = 4 ∨ n = 6) :
    br k (1, sp, dp, sq, ak, bt, wn, ur, ty, cd, rs, ns, o, b, ()) n = some ((ya sp dp sq ak bt wn ur ty cd rs ns o b, ()), ()) ∧ bq (1, sp, dp, sq, ak, bt, wn, ur, ty, cd, rs, ns, o, b, ()) n = some ((ya sp dp sq ak bt wn ur ty cd rs ns o b, ()), ()) := by
  obtain ⟨z1, z2⟩ := Rt (sp := sp) (dp := dp) (sq := sq) (ak := ak) (bt := bt) (wn := wn) (ur := ur) (ty := ty) (cd := cd) (rs := rs) (ns := ns) h
  have y1 : decide (20 + (o.length : Int) + (b.length : Int) < 0) = false := ao (by omega)
  have y6 : decide (0 ≤ 20 + (o.length : Int) + (b.length : Int)) = true := ae (by omega)
  have k11 : decide ((1 : Int) = 1) = true := rfl
  have nZ : decide ((1 : Int) = 2) = false := rfl
  have k13 : decide ((1 : Int) = 3) = false := rfl
  have n44 : decide ((4 : Int) = 4) = true := rfl
  have n64 : decide ((6 : Int) = 4) = false := rfl
  have n66 : decide ((6 : Int) = 6) = true := rfl
  have wA := jl k hk [sp, dp] (by simp)
  have wB := jl k hk [wn, ur] (by simp)
  have wC := kU k hk [ty, cd, rs] (by simp)
  constructor
  · unfold br cz bN cy cx cv bY cu bX cr
    rcases hn with rfl | rfl <;>
    · simp only [n44, n64, n66, z1, y6, jD, aI, wA, wB, wC, lR, uD, kf, k11, nZ, k13, List.all_cons, List.all_nil, Bool.and_true, ai, bn, pJ, ka, ll, oU, Bool.true_and, ag, al]
      refine AN ?_
      unfold ya
      try ac_rfl
  · unfold bq cq bW cm cj
    rcases hn with rfl | rfl <;>
    · simp only [n44, n64, n66, z2, y6, jD, aI, mE, oc, k11, nZ, k13, ai, bn, pJ, ka, ll, oU, Bool.true_and, ag, al]
      refine AN ?_
      unfold ya
      try ac_rfl
theorem Rz (k : Nat) (hk : MM < k) (h : o.length ≤ 1100000 ∧ b.length ≤ 1100000) (hn : n = 4 ∨ n = 6) :
    br k (2, sp, dp, sq, ak, bt, wn, ur, ty, cd, rs, ns, o, b, ()) n = some ((yb sp dp sq ak bt wn ur ty cd rs n ns o b, ()), ()) ∧ bq (2, sp, dp, sq, ak, bt, wn, ur, ty, cd, rs, ns, o, b, ()) n = some ((yb sp dp sq ak bt wn ur ty cd rs n ns o b, ()), ()) := by
  obtain ⟨z1, z2⟩ := Ru (sp := sp) (dp := dp) (sq := sq) (ak := ak) (bt := bt) (wn := wn) (ur := ur) (ty := ty) (cd := cd) (rs := rs) (ns := ns) (o := o) h.2
  have y6 : decide (0 ≤ (8 + (b.length : Int))) = true := ae (by omega)
  have k0 : decide ((2 : Int) = 0) = false := rfl
  have k11 : decide ((2 : Int) = 1) = false := rfl
  have nZ : decide ((2 : Int) = 2) = true := rfl
  have k13 : decide ((2 : Int) = 3) = false := rfl
  have n44 : decide ((4 : Int) = 4) = true := rfl
  have n64 : decide ((6 : Int) = 4) = false := rfl
  have n66 : decide ((6 : Int) = 6) = true := rfl
  have wA := jl k hk [sp, dp] (by simp)
  have wB := jl k hk [wn, ur] (by simp)
  have wC0 := kU k hk [sq, ak, bt, wn, ur, ty, cd, rs, (o.length : Int)] (by simp)
  have z65 : ∀ x : Int, (gq x 0 65535 && decide (x = 0)) = decide (x = 0) := fun x => by by_cases h : x = 0 <;> simp [h, gq]
  have z65' : ∀ (x : Int) (c : Bool), (gq x 0 65535 && (decide (x = 0) && c)) = (decide (x = 0) && c) := fun x c => by rw [← Bool.and_assoc, z65]
  constructor
  · unfold br cz bN cy cx cv bY cu bX cr
    rcases hn with rfl | rfl <;>
    · simp only [n44, n64, n66, z1, y6, jD, aI, wA, wB, wC0, lR, uD, kf, k0, k11, nZ, k13, List.all_cons, List.all_nil, Bool.and_true, ai, bn, pJ, ka, ll, oU, Bool.true_and, ag, al, Bool.or_true, Bool.or_false]
      refine AN ?_
      unfold yb
      try simp only [n44, n64, aI, Bool.or_true, Bool.or_false, Bool.true_and]
      try ac_rfl
  · unfold bq cq bW cm cj
    rcases hn with rfl | rfl <;>
    · simp only [n44, n64, n66, z2, y6, jD, aI, mE, oc, k0, k11, nZ, k13, ai, bn, pJ, ka, ll, oU, Bool.true_and, ag, al, Bool.or_true, Bool.or_false]
      refine AN ?_
      unfold yb
      try simp only [n44, n64, aI, Bool.or_true, Bool.or_false, Bool.true_and]
      try ac_rfl
theorem RA (k : Nat) (hk : MM < k) (h : o.length ≤ 1100000 ∧ b.length ≤ 1100000) (hn : n = 4 ∨ n = 6) :
    br k (3, sp, dp, sq, ak, bt, wn, ur, ty, cd, rs, ns, o, b, ()) n = some ((yc sp dp sq ak bt wn ur ty cd rs ns o b, ()), ()) ∧ bq (3, sp, dp, sq, ak, bt, wn, ur, ty, cd, rs, ns, o, b, ()) n = some ((yc sp dp sq ak bt wn ur ty cd rs ns o b, ()), ()) := by
  obtain ⟨z1, z2⟩ := Rv (sp := sp) (dp := dp) (sq := sq) (ak := ak) (bt := bt) (wn := wn) (ur := ur) (ty := ty) (cd := cd) (rs := rs) (ns := ns) (o := o) h.2
  have y6 : decide (0 ≤ (8 + (b.length : Int))) = true := ae (by omega)
  have k0 : decide ((3 : Int) = 0) = false := rfl
  have k11 : decide ((3 : Int) = 1) = false := rfl
  have nZ : decide ((3 : Int) = 2) = false := rfl
  have k13 : decide ((3 : Int) = 3) = true := rfl
  have n44 : decide ((4 : Int) = 4) = true := rfl
  have n64 : decide ((6 : Int) = 4) = false := rfl
  have n66 : decide ((6 : Int) = 6) = true := rfl
  have wA := jl k hk [sp, dp] (by simp)
  have wB := jl k hk [wn, ur] (by simp)
  have wC0 := kU k hk [sp, dp, sq, ak, bt, wn, ur, (o.length : Int)] (by simp)
  have z65 : ∀ x : Int, (gq x 0 65535 && decide (x = 0)) = decide (x = 0) := fun x => by by_cases h : x = 0 <;> simp [h, gq]
  have z65' : ∀ (x : Int) (c : Bool), (gq x 0 65535 && (decide (x = 0) && c)) = (decide (x = 0) && c) := fun x c => by rw [← Bool.and_assoc, z65]
  constructor
  · unfold br cz bN cy cx cv bY cu bX cr
    rcases hn with rfl | rfl <;>
    · simp only [n44, n64, n66, z1, y6, jD, aI, wA, wB, wC0, lR, uD, kf, k0, k11, nZ, k13, List.all_cons, List.all_nil, Bool.and_true, ai, bn, pJ, ka, ll, oU, Bool.true_and, ag, al, Bool.or_true, Bool.or_false]
      refine AN ?_
      unfold yc
      try simp only [n44, n64, aI, Bool.or_true, Bool.or_false, Bool.true_and]
      try ac_rfl
  · unfold bq cq bW cm cj
    rcases hn with rfl | rfl <;>
    · simp only [n44, n64, n66, z2, y6, jD, aI, mE, oc, k0, k11, nZ, k13, ai, bn, pJ, ka, ll, oU, Bool.true_and, ag, al, Bool.or_true, Bool.or_false]
      refine AN ?_
      unfold yc
      try simp only [n44, n64, aI, Bool.or_true, Bool.or_false, Bool.true_and]
      rw [← z65 sp, ← z65 dp]
      try ac_rfl
theorem RB (k : Nat) (hk : MM < k) (h : o.length ≤ 1100000 ∧ b.length ≤ 1100000) (hn : n = 4 ∨ n = 6) :
    br k (0, sp, dp, sq, ak, bt, wn, ur, ty, cd, rs, ns, o, b, ()) n = some ((yd sp dp sq ak bt wn ur ty cd rs ns o b, ()), ()) ∧ bq (0, sp, dp, sq, ak, bt, wn, ur, ty, cd, rs, ns, o, b, ()) n = some ((yd sp dp sq ak bt wn ur ty cd rs ns o b, ()), ()) := by
  obtain ⟨z1, z2⟩ := Rw (sp := sp) (dp := dp) (sq := sq) (ak := ak) (bt := bt) (wn := wn) (ur := ur) (ty := ty) (cd := cd) (rs := rs) (ns := ns) (o := o) h.2
  have y6 : decide (0 ≤ (b.length : Int)) = true := ae (by omega)
  have k0 : decide ((0 : Int) = 0) = true := rfl
  have k11 : decide ((0 : Int) = 1) = false := rfl
  have nZ : decide ((0 : Int) = 2) = false := rfl
  have k13 : decide ((0 : Int) = 3) = false := rfl
  have n44 : decide ((4 : Int) = 4) = true := rfl
  have n64 : decide ((6 : Int) = 4) = false := rfl
  have n66 : decide ((6 : Int) = 6) = true := rfl
  have wA := jl k hk [sp, dp] (by simp)
  have wB := jl k hk [wn, ur] (by simp)
  have wC0 := kU k hk [sp, dp, sq, ak, bt, wn, ur, ty, cd, rs, (o.length : Int)] (by simp)
  have z65 : ∀ x : Int, (gq x 0 65535 && decide (x = 0)) = decide (x = 0) := fun x => by by_cases h : x = 0 <;> simp [h, gq]
  have z65' : ∀ (x : Int) (c : Bool), (gq x 0 65535 && (decide (x = 0) && c)) = (decide (x = 0) && c) := fun x c => by rw [← Bool.and_assoc, z65]
  constructor
  · unfold br cz bN cy cx cv bY cu bX cr
    rcases hn with rfl | rfl <;>
    · simp only [n44, n64, n66, z1, y6, jD, aI, wA, wB, wC0, lR, uD, kf, k0, k11, nZ, k13, List.all_cons, List.all_nil, Bool.and_true, ai, bn, pJ, ka, ll, oU, Bool.true_and, ag, al, Bool.or_true, Bool.or_false]
      refine AN ?_
      unfold yd
      try simp only [n44, n64, aI, Bool.or_true, Bool.or_false, Bool.true_and]
      try ac_rfl
  · unfold bq cq bW cm cj
    rcases hn with rfl | rfl <;>
    · simp only [n44, n64, n66, z2, y6, jD, aI, mE, oc, k0, k11, nZ, k13, ai, bn, pJ, ka, ll, oU, Bool.true_and, ag, al, Bool.or_true, Bool.or_false]
      refine AN ?_
      unfold yd
      try simp only [n44, n64, aI, Bool.or_true, Bool.or_false, Bool.true_and]
      rw [← z65 sp, ← z65 dp]
      try ac_rfl
theorem RC {kd : Int} (k : Nat) (hk : MM < k) (h0 : kd ≠ 0) (h1 : kd ≠ 1) (h2 : kd ≠ 2) (h3 : kd ≠ 3) (hn : n = 4 ∨ n = 6) :
    br k (kd, sp, dp, sq, ak, bt, wn, ur, ty, cd, rs, ns, o, b, ()) n = some ((false, ()), ()) ∧ bq (kd, sp, dp, sq, ak, bt, wn, ur, ty, cd, rs, ns, o, b, ()) n = some ((false, ()), ()) := by
  obtain ⟨z1, z2⟩ := Rx (sp := sp) (dp := dp) (sq := sq) (ak := ak) (bt := bt) (wn := wn) (ur := ur) (ty := ty) (cd := cd) (rs := rs) (ns := ns) (o := o) (b := b) h0 h1 h2 h3
  have k0 := ao h0
  have k11 := ao h1
  have nZ := ao h2
  have k13 := ao h3
  have n44 : decide ((4 : Int) = 4) = true := rfl
  have n64 : decide ((6 : Int) = 4) = false := rfl
  have n66 : decide ((6 : Int) = 6) = true := rfl
  have ot : decide ((0 : Int) ≤ -1) = false := rfl
  constructor
  · unfold br cz bN cy cx cv bY cu bX cr
    rcases hn with rfl | rfl <;>
    · simp only [n44, n64, n66, z1, ot, jD, aI, ai, bn, pJ, ag, al]
  · unfold bq cq bW cm cj
    rcases hn with rfl | rfl <;>
    · simp only [n44, n64, n66, z2, ot, aI, mE, oc, k0, k11, nZ, k13, ai, bn, pJ, oU, ag, al]
theorem goN (k : Nat) (u : aF) (hn : ¬ (n = 4 ∨ n = 6)) :
    br k u n = some ((false, ()), ()) ∧ bq u n = some ((false, ()), ()) := by
  have n4 : decide (n = 4) = false := ao (fun h => hn (.inl h))
  have n6 : decide (n = 6) = false := ao (fun h => hn (.inr h))
  constructor
  · unfold br cz bN cy cx cv bY cu bX cr; rw [n4, n6]; rfl
  · unfold bq cq bW cm cj; rw [n4, n6]; rfl
end
def Iz (u : aF) (n : Int) : Bool := match u with
  | (kd, sp, dp, sq, ak, bt, wn, ur, ty, cd, rs, ns, o, b, _) => (decide (n = 4) || decide (n = 6)) && bif decide (kd = 1) then ya sp dp sq ak bt wn ur ty cd rs ns o b else bif decide (kd = 2) then yb sp dp sq ak bt wn ur ty cd rs n ns o b else bif decide (kd = 3) then yc sp dp sq ak bt wn ur ty cd rs ns o b else bif decide (kd = 0) then yd sp dp sq ak bt wn ur ty cd rs ns o b else false
theorem Qf (k : Nat) (hk : MM < k) (u : aF) (n : Int) (h1 : (uO u).length ≤ 1100000) (h2 : (uB u).length ≤ 1100000) : br k u n = some ((Iz u n, ()), ()) ∧ bq u n = some ((Iz u n, ()), ()) := by
  by_cases hn : n = 4 ∨ n = 6
  case neg =>
    obtain ⟨a, b⟩ := goN k u hn
    have n4 : decide (n = 4) = false := ao (fun h => hn (.inl h))
    have n6 : decide (n = 6) = false := ao (fun h => hn (.inr h))
    have e : Iz u n = false := by unfold Iz; rw [n4, n6]; rfl
    rw [a, b, e]; exact ⟨rfl, rfl⟩
  have nt : (decide (n = 4) || decide (n = 6)) = true := by rcases hn with rfl | rfl <;> rfl
  obtain ⟨kd, sp, dp, sq, ak, bt, wn, ur, ty, cd, rs, ns, o, b, ⟨⟩⟩ := u
  have hl : o.length ≤ 1100000 ∧ b.length ≤ 1100000 := ⟨h1, h2⟩
  unfold Iz
  rw [nt]
  by_cases e1 : kd = 1
  · subst e1; exact Ry k hk hl hn
  by_cases e2 : kd = 2
  · subst e2; exact Rz k hk hl hn
  by_cases e3 : kd = 3
  · subst e3; exact RA k hk hl hn
  by_cases e0 : kd = 0
  · subst e0; exact RB k hk hl hn
  simp only [ao e1, ao e2, ao e3, ao e0, al, Bool.and_false]
  exact RC k hk e0 e1 e2 e3 hn
theorem lP {u : aF} {n : Int} (h : Iz u n = true) : (n = 4 ∨ n = 6) ∧
    ((∃ sp dp sq ak bt wn ur o b, u = wU sp dp sq ak bt wn ur o b ∧ (0 ≤ sp ∧ sp ≤ 65535) ∧ (0 ≤ dp ∧ dp ≤ 65535) ∧ (0 ≤ sq ∧ sq ≤ 4294967295) ∧ (0 ≤ ak ∧ ak ≤ 4294967295) ∧ (0 ≤ bt ∧ bt ≤ 4095) ∧ (0 ≤ wn ∧ wn ≤ 65535) ∧ (0 ≤ ur ∧ ur ≤ 65535) ∧ o.length ≤ 40 ∧ o.length % 4 = 0 ∧ 20 + o.length + b.length ≤ 1500) ∨
     (∃ sp dp ns b, u = wV sp dp ns b ∧ (0 ≤ sp ∧ sp ≤ 65535) ∧ (0 ≤ dp ∧ dp ≤ 65535) ∧ (ns = true → n = 4) ∧ 8 + b.length ≤ 1500) ∨
     (∃ ty cd rs b, u = wW ty cd rs b ∧ (0 ≤ ty ∧ ty ≤ 255) ∧ (0 ≤ cd ∧ cd ≤ 255) ∧ (0 ≤ rs ∧ rs ≤ 4294967295) ∧ 8 + b.length ≤ 1500) ∨
     (∃ b, u = D7 b ∧ b.length ≤ 1500)) := by
  obtain ⟨kd, sp, dp, sq, ak, bt, wn, ur, ty, cd, rs, ns, o, b, ⟨⟩⟩ := u
  unfold Iz at h
  rw [aA] at h
  obtain ⟨hn, h⟩ := h
  have hn' : n = 4 ∨ n = 6 := by simpa using hn
  refine ⟨hn', ?_⟩
  by_cases e1 : kd = 1
  · subst e1
    have h' : ya sp dp sq ak bt wn ur ty cd rs ns o b = true := h
    unfold ya dM at h'
    simp only [aA, fV, bF, Bool.not_eq_true'] at h'
    obtain ⟨a1, a2, a3, a4, a5, a6, a7, a8, a9, rfl, rfl, rfl, rfl, a10⟩ := h'
    rw [Int.tmod_eq_emod_of_nonneg (by omega)] at a9
    exact .inl ⟨sp, dp, sq, ak, bt, wn, ur, o, b, rfl, a1, a2, a3, a4, a5, a6, a7, by omega, by omega, by omega⟩
  by_cases e2 : kd = 2
  · subst e2
    have h' : yb sp dp sq ak bt wn ur ty cd rs n ns o b = true := h
    unfold yb at h'
    simp only [aA, Bool.or_eq_true, fV, bF, Bool.not_eq_true'] at h'
    obtain ⟨a1, a2, rfl, rfl, rfl, rfl, rfl, a3, rfl, rfl, rfl, a4, a5⟩ := h'
    have eo : o = [] := List.length_eq_zero_iff.1 (by omega)
    subst eo
    have hns : ns = true → n = 4 := fun e => a4.elim (fun q => by rw [e] at q; cases q) (fun q => q)
    exact .inr (.inl ⟨sp, dp, ns, b, rfl, a1, a2, hns, by omega⟩)
  by_cases e3 : kd = 3
  · subst e3
    have h' : yc sp dp sq ak bt wn ur ty cd rs ns o b = true := h
    unfold yc dM at h'
    simp only [aA, fV, bF, Bool.not_eq_true'] at h'
    obtain ⟨rfl, rfl, rfl, rfl, rfl, rfl, rfl, a3, a4, a5, a6, rfl, a7⟩ := h'
    have eo : o = [] := List.length_eq_zero_iff.1 (by omega)
    subst eo
    exact .inr (.inr (.inl ⟨ty, cd, rs, b, rfl, a4, a5, a6, by omega⟩))
  by_cases e0 : kd = 0
  · subst e0
    have h' : yd sp dp sq ak bt wn ur ty cd rs ns o b = true := h
    unfold yd at h'
    simp only [aA, fV, bF, Bool.not_eq_true'] at h'
    obtain ⟨rfl, rfl, rfl, rfl, rfl, rfl, rfl, a3, rfl, rfl, rfl, rfl, a7⟩ := h'
    have eo : o = [] := List.length_eq_zero_iff.1 (by omega)
    subst eo
    exact .inr (.inr (.inr ⟨b, rfl, by omega⟩))
  simp only [ao e1, ao e2, ao e3, ao e0, al] at h
  cases h
end
section
set_option maxHeartbeats 8000000
section
variable {sp dp sq ak bt wn ur ty cd rs : Int} {ns : Bool} {o b : List Int} {s d : ar}
def sN (c sp dp sq ak bt wn ur : Int) (o b : List Int) : List Int :=
  putB sp 2 ++ (putB dp 2 ++ (putB sq 4 ++ (putB ak 4 ++ (putB (4096 * (5 + (o.length : Int) / 4) + bt) 2 ++ (putB wn 2 ++ (putB c 2 ++ (putB ur 2 ++ (o ++ b))))))))
def sO (c sp dp : Int) (b : List Int) : List Int := putB sp 2 ++ (putB dp 2 ++ (putB (8 + (b.length : Int)) 2 ++ (putB c 2 ++ b)))
def uI (c ty cd rs : Int) (b : List Int) : List Int := [ty % 256, cd % 256] ++ (putB c 2 ++ (putB rs 4 ++ b))
theorem Gy (k : Nat) (hk : MM < k) (c : Int) (h5 : 0 ≤ bt ∧ bt ≤ 4095) (h8 : o.length ≤ 40) (h10 : b.length ≤ 1500) : aJ k (wU sp dp sq ak bt wn ur o b) c = some ((sN c sp dp sq ak bt wn ur o b, ()), ()) := by
  unfold aJ
  have w2 : Int.tdiv ((o.length : Int)) 4 = (o.length : Int) / 4 := Int.tdiv_eq_ediv_of_nonneg (by omega)
  have w3 : Wr .i64 ((o.length : Int) / 4) = (o.length : Int) / 4 := bL (by omega)
  have w4 : Wr .i64 (5 + (o.length : Int) / 4) = 5 + (o.length : Int) / 4 := bL (by omega)
  have w5 : Wr .i64 (4096 * (5 + (o.length : Int) / 4)) = 4096 * (5 + (o.length : Int) / 4) := bL (by omega)
  have w6 : Wr .i64 (4096 * (5 + (o.length : Int) / 4) + bt) = 4096 * (5 + (o.length : Int) / 4) + bt := bL (by omega)
  have c1 := kD k hk [putB sp 2, putB dp 2] (by simp) (by simp [aL])
  have c2 := kD k hk [putB sp 2 ++ putB dp 2, putB sq 4, putB ak 4, putB (4096 * (5 + (o.length : Int) / 4) + bt) 2, putB wn 2, putB c 2, putB ur 2, o, b] (by simp) (by simp only [List.flatten_cons, List.flatten_nil, aT, List.length_nil, aL]; omega)
  simp only [List.flatten_cons, List.flatten_nil, List.append_nil] at c1 c2
  simp only [j9 k hk, lz k hk, w2, w3, w4, w5, w6, c1, c2, aI, ag, ai]
  unfold sN
  simp only [List.append_assoc]
theorem Gz (c : Int) (h5 : 0 ≤ bt ∧ bt ≤ 4095) (h8 : o.length ≤ 40) (h10 : b.length ≤ 1500) : bm (wU sp dp sq ak bt wn ur o b) c = some ((sN c sp dp sq ak bt wn ur o b, ()), ()) := by
  unfold bm cX
  have w2 : Int.tdiv ((o.length : Int)) 4 = (o.length : Int) / 4 := Int.tdiv_eq_ediv_of_nonneg (by omega)
  have w3 : Wr .i64 ((o.length : Int) / 4) = (o.length : Int) / 4 := bL (by omega)
  have w4 : Wr .i64 (5 + (o.length : Int) / 4) = 5 + (o.length : Int) / 4 := bL (by omega)
  have w5 : Wr .i64 (4096 * (5 + (o.length : Int) / 4)) = 4096 * (5 + (o.length : Int) / 4) := bL (by omega)
  have w6 : Wr .i64 (4096 * (5 + (o.length : Int) / 4) + bt) = 4096 * (5 + (o.length : Int) / 4) + bt := bL (by omega)
  simp only [jk, lA, w2, w3, w4, w5, w6, aI, bI, ag, al, ai, aL, aT]
  repeat (refine (aw (ae (by omega))).trans ?_)
  unfold sN
  simp only [List.append_assoc]
theorem GA (k : Nat) (hk : MM < k) (c : Int) (h10 : b.length ≤ 1500) : aJ k (wV sp dp ns b) c = some ((sO c sp dp b, ()), ()) := by
  unfold aJ
  have k1 : decide ((2 : Int) = 1) = false := rfl
  have z := (AL (sp := sp) (dp := dp) (ns := ns) (b := b) (by omega)).1
  have c1 := kD k hk [putB sp 2, putB dp 2] (by simp) (by simp [aL])
  have c2 := kD k hk [putB sp 2 ++ putB dp 2, putB (8 + (b.length : Int)) 2, putB c 2, b] (by simp) (by simp only [List.flatten_cons, List.flatten_nil, aT, List.length_nil, aL]; omega)
  simp only [List.flatten_cons, List.flatten_nil, List.append_nil] at c1 c2
  simp only [j9 k hk, lz k hk, k1, z, c1, c2, aI, ag, al, ai]
  unfold sO
  simp only [List.append_assoc]
theorem GB (c : Int) (h10 : b.length ≤ 1500) : bm (wV sp dp ns b) c = some ((sO c sp dp b, ()), ()) := by
  unfold bm cX
  have k1 : decide ((2 : Int) = 1) = false := rfl
  have z := (AL (sp := sp) (dp := dp) (ns := ns) (b := b) (by omega)).2
  simp only [jk, lA, k1, z, aI, bI, bT, ag, al, ai, aL, aT]
  repeat (refine (aw (ae (by omega))).trans ?_)
  unfold sO
  simp only [List.append_assoc]
theorem GC (k : Nat) (hk : MM < k) (c : Int) (h10 : b.length ≤ 1500) : aJ k (wW ty cd rs b) c = some ((uI c ty cd rs b, ()), ()) := by
  unfold aJ
  have k1 : decide ((3 : Int) = 1) = false := rfl
  have k2 : decide ((3 : Int) = 2) = false := rfl
  have c1 := kD k hk [putB 0 2, putB 0 2] (by simp) (by simp [aL])
  have c2 := kD k hk [[ty % 256, cd % 256], putB c 2, putB rs 4, b] (by simp) (by simp only [List.flatten_cons, List.flatten_nil, aT, List.length_cons, List.length_nil, aL]; omega)
  simp only [List.flatten_cons, List.flatten_nil, List.append_nil] at c1 c2
  simp only [j9 k hk, lz k hk, lF, k1, k2, c1, c2, aI, ag, al, ai]
  rfl
theorem GF (c : Int) (h10 : b.length ≤ 1500) : bm (wW ty cd rs b) c = some ((uI c ty cd rs b, ()), ()) := by
  unfold bm cX
  have k1 : decide ((3 : Int) = 1) = false := rfl
  have k2 : decide ((3 : Int) = 2) = false := rfl
  simp only [jk, lA, lF, k1, k2, aI, bI, bT, ag, al, ai, aL, aT, List.length_cons, List.length_nil]
  repeat (refine (aw (ae (by omega))).trans ?_)
  unfold uI
  simp only [List.append_assoc]
theorem GG (k : Nat) (hk : MM < k) (c : Int) (h10 : b.length ≤ 1500) : aJ k (D7 b) c = some ((b, ()), ()) := by
  unfold aJ
  have k1 : decide ((0 : Int) = 1) = false := rfl
  have k2 : decide ((0 : Int) = 2) = false := rfl
  have k3 : decide ((0 : Int) = 3) = false := rfl
  have c1 := kD k hk [putB 0 2, putB 0 2] (by simp) (by simp [aL])
  simp only [List.flatten_cons, List.flatten_nil, List.append_nil] at c1
  simp only [j9 k hk, k1, k2, k3, c1, Jr b (by omega), al, ai]
theorem GH (c : Int) (h10 : b.length ≤ 1500) : bm (D7 b) c = some ((b, ()), ()) := by
  unfold bm cX
  have k1 : decide ((0 : Int) = 1) = false := rfl
  have k2 : decide ((0 : Int) = 2) = false := rfl
  have k3 : decide ((0 : Int) = 3) = false := rfl
  simp only [k1, k2, k3, aI, bI, bT, ag, al, ai, List.length_nil, List.nil_append]
  repeat (refine (aw (ae (by omega))).trans ?_)
  rfl
theorem Nm (k : Nat) (hk : MM < k) (hs : iw s d = true) (h10 : b.length ≤ 1500) : ba k (D7 b) s d = some ((0, ()), ()) := by
  obtain ⟨q1, q2⟩ := Qw (b := b) k hk h10 (jC hs)
  unfold ba
  simp only [jm, hs, q2, aI, ai, bI, bT, ag, al]
end
def kg (u : aF) (s d : ar) : Int := match u with
  | (kd, sp, dp, sq, ak, bt, wn, ur, ty, cd, rs, ns, o, b, _) =>
    bif decide (kd = 1) then qK (oS s d 6 (20 + (o.length : Int) + (b.length : Int))) (x5 sp dp sq ak bt wn ur o b) else
    bif decide (kd = 2) then (bif ns then 0 else AM (qK (oS s d 17 (8 + (b.length : Int))) (wX sp dp b))) else
    bif decide (kd = 3) then Gx s d (8 + (b.length : Int)) (vV ty cd rs b) else 0
def oe (u : aF) (c : Int) : List Int := match u with
  | (kd, sp, dp, sq, ak, bt, wn, ur, ty, cd, rs, ns, o, b, _) =>
    bif decide (kd = 1) then sN c sp dp sq ak bt wn ur o b else bif decide (kd = 2) then sO c sp dp b else bif decide (kd = 3) then uI c ty cd rs b else b
def dX (u : aF) (s d : ar) : Bool := iw s d && Iz u s.1
def rN (u : aF) (s d : ar) : Int := bif dX u s d then kg u s d else -1
def jZ (u : aF) (s d : ar) : List Int := bif dX u s d then oe u (kg u s d) else []
theorem Qy : (0 : Int) ≤ 0 ∧ (0 : Int) ≤ 65535 := ⟨by decide, by decide⟩
theorem RD : (0 : Int) ≤ 65535 ∧ (65535 : Int) ≤ 65535 := ⟨by decide, by decide⟩
theorem GI {v : Int} (h : 0 ≤ v ∧ v ≤ 65535) : 0 ≤ AM v ∧ AM v ≤ 65535 := by
  unfold AM
  cases decide (v = 0)
  · exact h
  · exact RD
section
variable (k : Nat) (hk : MM < k) (u : aF) (s d : ar) (h1 : (uO u).length ≤ 1100000) (h2 : (uB u).length ≤ 1100000) (ho : az (uO u)) (hb : az (uB u))
include hk h1 h2 ho hb
theorem nQ (hg : dX u s d = true) : bS k u s d = some ((kg u s d, ()), ()) ∧ ba k u s d = some ((kg u s d, ()), ()) ∧ (0 ≤ kg u s d ∧ kg u s d ≤ 65535) ∧
    (∀ c, aJ k u c = some ((oe u c, ()), ())) ∧ (∀ c, bm u c = some ((oe u c, ()), ())) ∧ (∀ c, az (oe u c)) ∧ (∀ c, (oe u c).length ≤ 1500) := by
  unfold dX at hg
  rw [aA] at hg
  obtain ⟨hs, hu⟩ := hg
  obtain ⟨hn, h⟩ := lP hu
  rcases h with ⟨sp, dp, sq, ak, bt, wn, ur, o, b, rfl, a1, a2, a3, a4, a5, a6, a7, a8, a9, a10⟩ | ⟨sp, dp, ns, b, rfl, a1, a2, a3, a4⟩ | ⟨ty, cd, rs, b, rfl, a1, a2, a3, a4⟩ | ⟨b, rfl, a1⟩
  · obtain ⟨q1, q2⟩ := M9 k hk hs a1 a2 a3 a4 a5 a6 a7 a8 a9 a10 ho hb
    refine ⟨q1, q2, nO (iY _ _ _ _) (rJ ho hb), fun c => Gy k hk c a5 a8 (by omega), fun c => Gz c a5 a8 (by omega), fun c => ?_, fun c => ?_⟩
    · exact aE (aC _ _) (aE (aC _ _) (aE (aC _ _) (aE (aC _ _) (aE (aC _ _) (aE (aC _ _) (aE (aC _ _) (aE (aC _ _) (aE ho hb))))))))
    · show (sN c sp dp sq ak bt wn ur o b).length ≤ 1500
      unfold sN; simp only [aT, aL]; omega
  · obtain ⟨q1, q2⟩ := Na k hk hs a1 a2 a4 hb a3
    refine ⟨q1, q2, ?_, fun c => GA k hk c (by omega), fun c => GB c (by omega), fun c => ?_, fun c => ?_⟩
    · show 0 ≤ (bif ns then 0 else AM _) ∧ (bif ns then 0 else AM _) ≤ 65535
      cases ns
      · exact GI (nO (iY _ _ _ _) (rK hb))
      · exact Qy
    · exact aE (aC _ _) (aE (aC _ _) (aE (aC _ _) (aE (aC _ _) hb)))
    · show (sO c sp dp b).length ≤ 1500
      unfold sO; simp only [aT, aL]; omega
  · obtain ⟨q1, q2⟩ := Ix k hk hs a1 a2 a3 a4 hb
    refine ⟨q1, q2, ?_, fun c => GC k hk c (by omega), fun c => GF c (by omega), fun c => ?_, fun c => ?_⟩
    · show 0 ≤ Gx s d _ _ ∧ Gx s d _ _ ≤ 65535
      unfold Gx
      cases decide (s.1 = 6)
      · have := mg (a := 0) (by omega) (vi (oy (ty := ty) (cd := cd) (rs := rs) (show az b from hb)))
        simp only [al]; omega
      · exact nO (iY _ _ _ _) (oy hb)
    · exact aE (nI _ _) (aE (aC _ _) (aE (aC _ _) hb))
    · show (uI c ty cd rs b).length ≤ 1500
      unfold uI; simp only [aT, List.length_cons, List.length_nil, aL]; omega
  · exact ⟨P2 k hk hs a1, Nm k hk hs a1, Qy, fun c => GG k hk c a1, fun c => GH c a1, fun c => hb, fun c => a1⟩
theorem ov : bS k u s d = some ((rN u s d, ()), ()) ∧ ba k u s d = some ((rN u s d, ()), ()) := by
  cases hg : dX u s d
  · have e : rN u s d = -1 := by unfold rN; rw [hg]; rfl
    rw [e]
    unfold dX at hg
    obtain ⟨o1, o2⟩ := Qf k hk u s.1 h1 h2
    constructor
    · unfold bS
      simp only [vW, ai, pJ]
      cases hs : iw s d
      · rfl
      · rw [hs, Bool.true_and] at hg
        simp only [ag, o1, hg, ai, bT]
    · unfold ba
      simp only [jm, ai, pJ]
      cases hs : iw s d
      · rfl
      · rw [hs, Bool.true_and] at hg
        simp only [ag, o2, hg, ai, bT]
  · have e : rN u s d = kg u s d := by unfold rN; rw [hg]; rfl
    obtain ⟨q1, q2, _⟩ := nQ k hk u s d h1 h2 ho hb hg
    rw [e]; exact ⟨q1, q2⟩
theorem kS : decide (rN u s d < 0) = !dX u s d := by
  cases hg : dX u s d
  · unfold rN; rw [hg]; rfl
  · obtain ⟨_, _, q3, _⟩ := nQ k hk u s d h1 h2 ho hb hg
    unfold rN; rw [hg]
    exact ao (by simp only [ag]; omega)
theorem pN : iO k u s d = some ((jZ u s d, ()), ()) ∧ gx k u s d = some ((jZ u s d, ()), ()) := by
  obtain ⟨a, b⟩ := ov k hk u s d h1 h2 ho hb
  have c := kS k hk u s d h1 h2 ho hb
  constructor
  · unfold iO jZ
    simp only [a, c, ai, bn]
    cases hg : dX u s d
    · rfl
    · obtain ⟨_, _, _, q4, _⟩ := nQ k hk u s d h1 h2 ho hb hg
      simp only [ag, q4, ai]
      unfold rN; rw [hg]; rfl
  · unfold gx jZ
    simp only [b, c, ai, bn]
    cases hg : dX u s d
    · rfl
    · obtain ⟨_, _, _, _, q5, _⟩ := nQ k hk u s d h1 h2 ho hb hg
      simp only [ag, q5, ai]
      unfold rN; rw [hg]; rfl
theorem lj : az (jZ u s d) ∧ (jZ u s d).length ≤ 1500 := by
  unfold jZ
  cases hg : dX u s d
  · exact ⟨fun x hx => (List.not_mem_nil hx).elim, Nat.zero_le _⟩
  · obtain ⟨_, _, _, _, _, q6, q7⟩ := nQ k hk u s d h1 h2 ho hb hg
    exact ⟨q6 _, q7 _⟩
end
end
section
set_option maxHeartbeats 4000000
def oA (c : Int) (f : aR) : List Int :=
  (((((((([(69 + (((fO f).length : Nat) : Int) / 4) % 256, (4 * f.1 + f.2.1) % 256] : List Int) ++ putB (20 + (((fO f).length : Nat) : Int) + (((fB f).length : Nat) : Int)) 2) ++ putB f.2.2.1 2) ++ putB (8192 * f.2.2.2.1 + f.2.2.2.2.1) 2) ++ [f.2.2.2.2.2.1 % 256, f.2.2.2.2.2.2.1 % 256]) ++ putB c 2) ++ au f.2.2.2.2.2.2.2.1) ++ au f.2.2.2.2.2.2.2.2.1) ++ fO f
theorem Qg (k : Nat) (hk : MM < k) (c : Int) (f : aR) (hf : dN f = true) : fc k f c = some ((oA c f, ()), ()) := by
  obtain ⟨h1, h2, h3, h4, h5, h6, h7, h8, h9⟩ := hJ hf
  have h8' : f.2.2.2.2.2.2.2.2.2.1.length ≤ 40 := h8
  have h9' : f.2.2.2.2.2.2.2.2.2.2.1.length ≤ 1500 := h9
  unfold fc gE
  simp only [ai, DQ f (by omega) (by omega), j9 k hk, nM k hk]
  have a1 := bV f.2.2.2.2.2.2.2.1
  have a2 := bV f.2.2.2.2.2.2.2.2.1
  rw [kD k hk _ (by simp) (by simp only [List.flatten_cons, List.flatten_nil, aT, List.length_cons, List.length_nil, aL]; omega)]
  simp only [ai]
  have w1 : Wr .i64 (20 + (f.2.2.2.2.2.2.2.2.2.1.length : Int)) = 20 + (f.2.2.2.2.2.2.2.2.2.1.length : Int) := bL (by omega)
  have w2 : Int.tdiv (20 + (f.2.2.2.2.2.2.2.2.2.1.length : Int)) 4 = 5 + (f.2.2.2.2.2.2.2.2.2.1.length : Int) / 4 := by rw [Int.tdiv_eq_ediv_of_nonneg (by omega)]; omega
  have w3 : Wr .i64 (5 + (f.2.2.2.2.2.2.2.2.2.1.length : Int) / 4) = 5 + (f.2.2.2.2.2.2.2.2.2.1.length : Int) / 4 := bL (by omega)
  have w4 : Wr .i64 (64 + (5 + (f.2.2.2.2.2.2.2.2.2.1.length : Int) / 4)) = 69 + (f.2.2.2.2.2.2.2.2.2.1.length : Int) / 4 := by rw [bL (by omega)]; omega
  have w5 : Wr .i64 (Wr .i64 (4 * f.1) + f.2.1) = 4 * f.1 + f.2.1 := by rw [bL (n := 4 * f.1) (by omega), bL (by omega)]
  have w6 : Wr .i64 (Wr .i64 (8192 * f.2.2.2.1) + f.2.2.2.2.1) = 8192 * f.2.2.2.1 + f.2.2.2.2.1 := by rw [bL (n := 8192 * f.2.2.2.1) (by omega), bL (by omega)]
  rw [w1, w2, w3, w4, w5, w6, lF, lF, lF, lF]
  unfold oA
  simp only [List.flatten_cons, List.flatten_nil, List.append_nil, List.append_assoc]
theorem Qh (c : Int) (f : aR) (hf : dN f = true) : gu f c = some ((oA c f, ()), ()) := by
  obtain ⟨h1, h2, h3, h4, h5, h6, h7, h8, h9⟩ := hJ hf
  have h8' : f.2.2.2.2.2.2.2.2.2.1.length ≤ 40 := h8
  have h9' : f.2.2.2.2.2.2.2.2.2.2.1.length ≤ 1500 := h9
  have a1 := bV f.2.2.2.2.2.2.2.1
  have a2 := bV f.2.2.2.2.2.2.2.2.1
  unfold gu
  simp only [ai, jk, kC, aL, aT, List.length_cons, List.length_nil]
  have w0 : Wr .i64 (Wr .i64 (20 + (f.2.2.2.2.2.2.2.2.2.1.length : Int)) + (f.2.2.2.2.2.2.2.2.2.2.1.length : Int)) = 20 + (f.2.2.2.2.2.2.2.2.2.1.length : Int) + (f.2.2.2.2.2.2.2.2.2.2.1.length : Int) := by rw [bL (n := 20 + _) (by omega), bL (by omega)]
  have w2 : Int.tdiv ((f.2.2.2.2.2.2.2.2.2.1.length : Int)) 4 = (f.2.2.2.2.2.2.2.2.2.1.length : Int) / 4 := Int.tdiv_eq_ediv_of_nonneg (by omega)
  have w3 : Wr .i64 ((f.2.2.2.2.2.2.2.2.2.1.length : Int) / 4) = (f.2.2.2.2.2.2.2.2.2.1.length : Int) / 4 := bL (by omega)
  have w4 : Wr .i64 (69 + ((f.2.2.2.2.2.2.2.2.2.1.length : Int) / 4)) = 69 + (f.2.2.2.2.2.2.2.2.2.1.length : Int) / 4 := by rw [bL (by omega)]
  have w5 : Wr .i64 (Wr .i64 (4 * f.1) + f.2.1) = 4 * f.1 + f.2.1 := by rw [bL (n := 4 * f.1) (by omega), bL (by omega)]
  have w6 : Wr .i64 (Wr .i64 (8192 * f.2.2.2.1) + f.2.2.2.2.1) = 8192 * f.2.2.2.1 + f.2.2.2.2.1 := by rw [bL (n := 8192 * f.2.2.2.1) (by omega), bL (by omega)]
  rw [w0, w2, w3, w4, w5, w6, lF, lF, lF, lF]
  repeat (refine (aw (ae (by omega))).trans ?_)
  rfl
theorem xV {c : Int} {f : aR} (hf : dN f = true) (ho : az (fO f)) : az (oA c f) := by
  intro b hb
  unfold oA at hb
  simp only [List.mem_append, List.mem_cons, List.not_mem_nil, or_false] at hb
  rcases hb with ((((((((h | h) | h) | h) | h) | (h | h)) | h) | h) | h) | h
  · subst h; omega
  · subst h; omega
  · exact aC _ _ b h
  · exact aC _ _ b h
  · exact aC _ _ b h
  · subst h; omega
  · subst h; omega
  · exact aC _ _ b h
  · exact de _ b h
  · exact de _ b h
  · exact ho b h
theorem Eg {a b : Int} (n : Nat) (hn : n ≤ 40) (ha : 0 ≤ a ∧ a < 1048576) (hb : 0 ≤ b ∧ b < ((2 ^ n : Nat) : Int)) :
    (BitVec.ofInt (IntKind.bits .i64) (a * ((2 ^ n : Nat) : Int)) ||| BitVec.ofInt (IntKind.bits .i64) b).toNat = (a * ((2 ^ n : Nat) : Int) + b).toNat := by
  obtain ⟨x, rfl⟩ := Int.eq_ofNat_of_zero_le ha.1
  obtain ⟨y, rfl⟩ := Int.eq_ofNat_of_zero_le hb.1
  have h2 : 2 ^ n ≤ 2 ^ 40 := Nat.pow_le_pow_right (by omega) hn
  have h20 : x * 2 ^ n ≤ 1048576 * 2 ^ 40 := Nat.mul_le_mul (by omega) h2
  have hc : ((2 : Nat) ^ 40) = 1099511627776 := rfl
  rw [hc] at h20 h2
  rw [BitVec.toNat_or]
  have e1 : (BitVec.ofInt (IntKind.bits .i64) ((x : Int) * ((2 ^ n : Nat) : Int))).toNat = x * 2 ^ n := by
    rw [show ((x : Int) * ((2 ^ n : Nat) : Int)) = ((x * 2 ^ n : Nat) : Int) by rw [Int.natCast_mul], BitVec.ofInt_natCast, BitVec.toNat_ofNat]
    exact Nat.mod_eq_of_lt (by show x * 2 ^ n < 2 ^ 64; omega)
  have e2 : (BitVec.ofInt (IntKind.bits .i64) (y : Int)).toNat = y := by
    rw [BitVec.ofInt_natCast, BitVec.toNat_ofNat]
    exact Nat.mod_eq_of_lt (by show y < 2 ^ 64; omega)
  rw [e1, e2]
  have := Nat.shiftLeft_add_eq_or_of_lt (i := n) (b := y) (by omega) x
  rw [Nat.shiftLeft_eq] at this
  rw [← this, ← Int.natCast_mul, ← Int.natCast_add, Int.toNat_natCast]
def qH (f : aR) : List Int := bif dN f then oA (lS f) f ++ fB f else []
theorem Qi (k : Nat) (hk : MM < k) (f : aR) (h1 : (fO f).length ≤ 1100000) (h2 : (fB f).length ≤ 1100000) (ho : az (fO f)) : gW k f = some ((qH f, ()), ()) := by
  unfold gW qH
  rw [zm f h1 h2, ai, bn]
  cases h : dN f
  · rfl
  · obtain ⟨_, _, _, _, _, _, _, b1, b2⟩ := hJ h
    have a1 := bV f.2.2.2.2.2.2.2.1
    have a2 := bV f.2.2.2.2.2.2.2.2.1
    have hl : (oA (lS f) f).length ≤ 100 := by
      unfold oA; simp only [aT, List.length_cons, List.length_nil, aL]; omega
    have c1 := kD k hk [oA (lS f) f, fB f] (by simp) (by simp only [List.flatten_cons, List.flatten_nil, aT, List.length_nil]; omega)
    simp only [List.flatten_cons, List.flatten_nil, List.append_nil] at c1
    simp only [ag, M5 k hk f h1 h2 ho, Qg k hk _ f h, ai, c1]
theorem MP (k : Nat) (hk : MM < k) (f : aR) (h1 : (fO f).length ≤ 1100000) (h2 : (fB f).length ≤ 1100000) (ho : az (fO f)) : gR k f = some ((qH f, ()), ()) := by
  unfold gR qH
  rw [vF f h1 h2, ai, bn]
  cases h : dN f
  · rfl
  · obtain ⟨_, _, _, _, _, _, _, b1, b2⟩ := hJ h
    have a1 := bV f.2.2.2.2.2.2.2.1
    have a2 := bV f.2.2.2.2.2.2.2.2.1
    have hl : (oA (lS f) f).length ≤ 100 := by
      unfold oA; simp only [aT, List.length_cons, List.length_nil, aL]; omega
    simp only [ag, Iv k hk f h1 h2 ho, Qh _ f h, ai]
    exact aw (ae (by have : f.2.2.2.2.2.2.2.2.2.2.1.length ≤ 1500 := b2; omega))
abbrev eB (e : bH) : List Int := e.2.2.2.2.1
def Nn (e : bH) : Int := bif decide (0 ≤ e.2.2.1) then 18 else 14
def mY (e : bH) : Bool := gq e.1 0 281474976710655 && (gq e.2.1 0 281474976710655 && (gq e.2.2.1 (-1) 65535 && (gq e.2.2.2.1 1536 65535 && (!decide (e.2.2.2.1 = 33024) && decide (Nn e + (((eB e).length : Nat) : Int) ≤ 1600)))))
def jR (e : bH) : List Int := bif mY e then putB e.1 6 ++ (putB e.2.1 6 ++ ((bif decide (0 ≤ e.2.2.1) then putB 33024 2 ++ putB e.2.2.1 2 else []) ++ (putB e.2.2.2.1 2 ++ eB e))) else []
theorem No (e : bH) (h : (eB e).length ≤ 1100000) : kz e = some ((mY e, ()), ()) := by
  unfold kz mU mV mY Nn
  have h' : e.2.2.2.2.1.length ≤ 1100000 := h
  have w1 : Wr .i64 (18 + (e.2.2.2.2.1.length : Int)) = 18 + (e.2.2.2.2.1.length : Int) := bL (by omega)
  have w2 : Wr .i64 (14 + (e.2.2.2.2.1.length : Int)) = 14 + (e.2.2.2.2.1.length : Int) := bL (by omega)
  simp only [uD, ai, pJ, bn, ka]
  cases gq e.2.2.2.1 1536 65535
  · simp only [al, ai, ka, Bool.false_and, Bool.and_false]
  · cases decide (0 ≤ e.2.2.1)
    · simp only [ag, al, ai, w2, ka, Bool.true_and]
    · simp only [ag, al, ai, w1, ka, Bool.true_and]
theorem Dv (e : bH) (h : (eB e).length ≤ 1100000) : fA e = some ((mY e, ()), ()) := by
  unfold fA mY Nn gq
  have lt : ∀ x c : Int, decide (x < c) = !decide (c ≤ x) := fun x c => jD c x
  have q1 : decide ((e.2.2.2.2.1.length : Int) ≤ 1582) = decide (18 + (e.2.2.2.2.1.length : Int) ≤ 1600) := decide_eq_decide.2 (by omega)
  have q2 : decide ((e.2.2.2.2.1.length : Int) ≤ 1586) = decide (14 + (e.2.2.2.2.1.length : Int) ≤ 1600) := decide_eq_decide.2 (by omega)
  simp only [lt, pJ, bn, ka, ll, q1, q2]
  cases decide (0 ≤ e.2.2.1)
  · simp only [al, ka]
    refine AN ?_
    ac_rfl
  · simp only [ag, ka]
    refine AN ?_
    ac_rfl
theorem Np {x : Int} (h : 0 ≤ x ∧ x ≤ 281474976710655) : jU x = some ((putB x 6, ()), ()) := by
  unfold jU
  have w1 : Int.tdiv x 4294967296 = x / 4294967296 := Int.tdiv_eq_ediv_of_nonneg h.1
  have w2 : Int.tmod x 4294967296 = x % 4294967296 := Int.tmod_eq_emod_of_nonneg h.1
  have w3 : Wr .i64 (x / 4294967296) = x / 4294967296 := bL (by omega)
  simp only [w1, w2, w3, jk, lA, ai, aL]
  refine (aw (by decide)).trans ?_
  refine congrArg (fun l : List Int => some ((l, ()), ())) ?_
  rw [vM, DN]
  have p0 : ((256 ^ 0 : Nat) : Int) = 1 := rfl
  have p1 : ((256 ^ 1 : Nat) : Int) = 256 := rfl
  have p2 : ((256 ^ 2 : Nat) : Int) = 65536 := rfl
  have p3 : ((256 ^ 3 : Nat) : Int) = 16777216 := rfl
  have p4 : ((256 ^ 4 : Nat) : Int) = 4294967296 := rfl
  have p5 : ((256 ^ 5 : Nat) : Int) = 1099511627776 := rfl
  simp only [putB, p0, p1, p2, p3, p4, p5, List.cons_append, List.nil_append, List.cons.injEq, and_true]
  refine ⟨?_, trivial, ?_, ?_, ?_, ?_⟩ <;> clear w1 w2 w3 <;> omega
theorem lO {e : bH} (h : mY e = true) : (0 ≤ e.1 ∧ e.1 ≤ 281474976710655) ∧ (0 ≤ e.2.1 ∧ e.2.1 ≤ 281474976710655) ∧ (eB e).length ≤ 1600 := by
  unfold mY Nn at h
  simp only [aA, fV, bF] at h
  obtain ⟨h1, h2, _, _, _, h3⟩ := h
  refine ⟨h1, h2, ?_⟩
  cases h5 : decide (0 ≤ e.2.2.1) <;> rw [h5] at h3 <;> simp only [ag, al] at h3 <;> omega
theorem vX (e : bH) (h : (eB e).length ≤ 1100000) : gy e = some ((jR e, ()), ()) := by
  unfold gy jR
  rw [Dv e h, ai, bn]
  cases he : mY e
  · rfl
  · obtain ⟨a1, a2, b1⟩ := lO he
    have b1' : e.2.2.2.2.1.length ≤ 1600 := b1
    simp only [ag, Np a1, Np a2, jk, ai, aL, aT]
    refine (aw (by decide)).trans ?_
    cases decide (0 ≤ e.2.2.1)
    · simp only [al, aL, aT]
      repeat (refine (aw (ae (by omega))).trans ?_)
      simp only [List.append_assoc, List.nil_append]
    · simp only [ag, aL, aT]
      repeat (refine (aw (ae (by omega))).trans ?_)
      simp only [List.append_assoc]
end
end Go.Tw
