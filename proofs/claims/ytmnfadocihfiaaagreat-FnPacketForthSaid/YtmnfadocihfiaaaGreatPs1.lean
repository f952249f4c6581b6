/- Facts on mirrors. -/
import Derived.Test.YtmnfadocihfiaaaGreatPq4
set_option linter.all false
set_option maxRecDepth 100000
set_option maxHeartbeats 8000000
namespace Go.Tw
open Go Go.RowKit
def zeroL (l : List Int) : Bool := l.all (fun x => decide (x = 0))
abbrev uO (u : D_Upper) : List Int := u.2.2.2.2.2.2.2.2.2.2.2.2.1
abbrev uB (u : D_Upper) : List Int := u.2.2.2.2.2.2.2.2.2.2.2.2.2.1
section
variable (sp dp sq ak bt wn ur ty cd rs n : Int) (ns : Bool) (o b : List Int)
def tcpB : Bool := inB sp 0 65535 && (inB dp 0 65535 && (longB sq && (longB ak && (inB bt 0 4095 && (inB wn 0 65535 && (inB ur 0 65535 && (decide (((o.length : Nat) : Int) ≤ 40) && (decide (Int.tmod ((o.length : Nat) : Int) 4 = 0) && (decide (ty = 0) && (decide (cd = 0) && (decide (rs = 0) && (!ns && decide (20 + ((o.length : Nat) : Int) + ((b.length : Nat) : Int) ≤ 1500)))))))))))))
def udpB : Bool := inB sp 0 65535 && (inB dp 0 65535 && (decide (sq = 0) && (decide (ak = 0) && (decide (bt = 0) && (decide (wn = 0) && (decide (ur = 0) && (decide (((o.length : Nat) : Int) = 0) && (decide (ty = 0) && (decide (cd = 0) && (decide (rs = 0) && ((!ns || decide (n = 4)) && decide (8 + ((b.length : Nat) : Int) ≤ 1500))))))))))))
def icmB : Bool := decide (sp = 0) && (decide (dp = 0) && (decide (sq = 0) && (decide (ak = 0) && (decide (bt = 0) && (decide (wn = 0) && (decide (ur = 0) && (decide (((o.length : Nat) : Int) = 0) && (inB ty 0 255 && (inB cd 0 255 && (longB rs && (!ns && decide (8 + ((b.length : Nat) : Int) ≤ 1500))))))))))))
def othB : Bool := decide (sp = 0) && (decide (dp = 0) && (decide (sq = 0) && (decide (ak = 0) && (decide (bt = 0) && (decide (wn = 0) && (decide (ur = 0) && (decide (((o.length : Nat) : Int) = 0) && (decide (ty = 0) && (decide (cd = 0) && (decide (rs = 0) && (!ns && decide (((b.length : Nat) : Int) ≤ 1500))))))))))))
variable {sp dp sq ak bt wn ur ty cd rs n} {ns} {o b}
theorem gt_not (x c : Int) : decide (c < x) = !decide (x ≤ c) := by
  by_cases h : x ≤ c
  · rw [decide_eq_true h, decide_eq_false (by omega)]; rfl
  · rw [decide_eq_false h, decide_eq_true (by omega)]; rfl
theorem cself {α : Type} (b : Bool) (X : α) : (bif b then X else X) = X := by cases b <;> rfl
theorem szT (h : o.length ≤ 1100000 ∧ b.length ≤ 1100000) : impl_UpperSize (1, sp, dp, sq, ak, bt, wn, ur, ty, cd, rs, ns, o, b, ()) = some ((20 + ((o.length : Nat) : Int) + ((b.length : Nat) : Int), ()), ()) ∧ spec_UpperSize (1, sp, dp, sq, ak, bt, wn, ur, ty, cd, rs, ns, o, b, ()) = some ((20 + ((o.length : Nat) : Int) + ((b.length : Nat) : Int), ()), ()) := by
  have w1 : IntKind.wrap .i64 (20 + ((o.length : Nat) : Int)) = 20 + ((o.length : Nat) : Int) := w64 (by omega)
  have w2 : IntKind.wrap .i64 (20 + ((o.length : Nat) : Int) + ((b.length : Nat) : Int)) = 20 + ((o.length : Nat) : Int) + ((b.length : Nat) : Int) := w64 (by omega)
  constructor
  · unfold impl_UpperSize impl_upperHead; simp [w1, w2]
  · unfold spec_UpperSize; simp [w1, w2]
theorem szU (h : b.length ≤ 1100000) : impl_UpperSize (2, sp, dp, sq, ak, bt, wn, ur, ty, cd, rs, ns, o, b, ()) = some ((8 + ((b.length : Nat) : Int), ()), ()) ∧ spec_UpperSize (2, sp, dp, sq, ak, bt, wn, ur, ty, cd, rs, ns, o, b, ()) = some ((8 + ((b.length : Nat) : Int), ()), ()) := by
  have w2 : IntKind.wrap .i64 (8 + ((b.length : Nat) : Int)) = 8 + ((b.length : Nat) : Int) := w64 (by omega)
  constructor
  · unfold impl_UpperSize impl_upperHead; simp [w2]
  · unfold spec_UpperSize; simp [w2]
theorem szI (h : b.length ≤ 1100000) : impl_UpperSize (3, sp, dp, sq, ak, bt, wn, ur, ty, cd, rs, ns, o, b, ()) = some ((8 + ((b.length : Nat) : Int), ()), ()) ∧ spec_UpperSize (3, sp, dp, sq, ak, bt, wn, ur, ty, cd, rs, ns, o, b, ()) = some ((8 + ((b.length : Nat) : Int), ()), ()) := by
  have w2 : IntKind.wrap .i64 (8 + ((b.length : Nat) : Int)) = 8 + ((b.length : Nat) : Int) := w64 (by omega)
  constructor
  · unfold impl_UpperSize impl_upperHead; simp [w2]
  · unfold spec_UpperSize; simp [w2]
theorem szO (h : b.length ≤ 1100000) : impl_UpperSize (0, sp, dp, sq, ak, bt, wn, ur, ty, cd, rs, ns, o, b, ()) = some ((((b.length : Nat) : Int), ()), ()) ∧ spec_UpperSize (0, sp, dp, sq, ak, bt, wn, ur, ty, cd, rs, ns, o, b, ()) = some ((((b.length : Nat) : Int), ()), ()) := by
  have w3 : IntKind.wrap .i64 ((b.length : Nat) : Int) = ((b.length : Nat) : Int) := w64 (by omega)
  constructor
  · unfold impl_UpperSize impl_upperHead; simp [w3]
  · unfold spec_UpperSize; simp
theorem szX {kd : Int} (h0 : kd ≠ 0) (h1 : kd ≠ 1) (h2 : kd ≠ 2) (h3 : kd ≠ 3) : impl_UpperSize (kd, sp, dp, sq, ak, bt, wn, ur, ty, cd, rs, ns, o, b, ()) = some ((-1, ()), ()) ∧ spec_UpperSize (kd, sp, dp, sq, ak, bt, wn, ur, ty, cd, rs, ns, o, b, ()) = some ((-1, ()), ()) := by
  constructor
  · unfold impl_UpperSize impl_upperHead; simp [h0, h1, h2, h3]
  · unfold spec_UpperSize; simp [h0, h1, h2, h3]
theorem pk1 {a b : Bool} (h : a = b) : some ((a, ()), ()) = some ((b, ()), ()) := by rw [h]
theorem goT (k : Nat) (hk : MM < k) (h : o.length ≤ 1100000 ∧ b.length ≤ 1100000) (hn : n = 4 ∨ n = 6) :
    impl_UpperOk k (1, sp, dp, sq, ak, bt, wn, ur, ty, cd, rs, ns, o, b, ()) n = some ((tcpB sp dp sq ak bt wn ur ty cd rs ns o b, ()), ()) ∧ spec_UpperOk (1, sp, dp, sq, ak, bt, wn, ur, ty, cd, rs, ns, o, b, ()) n = some ((tcpB sp dp sq ak bt wn ur ty cd rs ns o b, ()), ()) := by
  obtain ⟨z1, z2⟩ := szT (sp := sp) (dp := dp) (sq := sq) (ak := ak) (bt := bt) (wn := wn) (ur := ur) (ty := ty) (cd := cd) (rs := rs) (ns := ns) h
  have y1 : decide (20 + ((o.length : Nat) : Int) + ((b.length : Nat) : Int) < 0) = false := decide_eq_false (by omega)
  have y6 : decide (0 ≤ 20 + ((o.length : Nat) : Int) + ((b.length : Nat) : Int)) = true := decide_eq_true (by omega)
  have k11 : decide ((1 : Int) = 1) = true := rfl
  have k12 : decide ((1 : Int) = 2) = false := rfl
  have k13 : decide ((1 : Int) = 3) = false := rfl
  have n44 : decide ((4 : Int) = 4) = true := rfl
  have n64 : decide ((6 : Int) = 4) = false := rfl
  have n66 : decide ((6 : Int) = 6) = true := rfl
  have wA := wordsI k hk [sp, dp] (by simp)
  have wB := wordsI k hk [wn, ur] (by simp)
  have wC := zerosI k hk [ty, cd, rs] (by simp)
  constructor
  · unfold impl_UpperOk impl_UpperOk_j0 impl_UpperOk_j7 impl_UpperOk_j8 impl_UpperOk_j5 impl_UpperOk_j6 impl_UpperOk_j4 impl_UpperOk_j3 impl_UpperOk_j2 impl_UpperOk_j1
    rcases hn with rfl | rfl <;>
    · simp only [n44, n64, n66, z1, y6, gt_not, decide_true, wA, wB, wC, longI, inI, byteI, k11, k12, k13, List.all_cons, List.all_nil, Bool.and_true, Option.bind_some, bn, bnn, andS, nandS, cself, Bool.true_and, cond_true, cond_false]
      refine pk1 ?_
      unfold tcpB
      try ac_rfl
  · unfold spec_UpperOk spec_UpperOk_j0 spec_UpperOk_j1 spec_UpperOk_j2 spec_UpperOk_j3
    rcases hn with rfl | rfl <;>
    · simp only [n44, n64, n66, z2, y6, gt_not, decide_true, longS, inS, k11, k12, k13, Option.bind_some, bn, bnn, andS, nandS, cself, Bool.true_and, cond_true, cond_false]
      refine pk1 ?_
      unfold tcpB
      try ac_rfl
theorem goU (k : Nat) (hk : MM < k) (h : o.length ≤ 1100000 ∧ b.length ≤ 1100000) (hn : n = 4 ∨ n = 6) :
    impl_UpperOk k (2, sp, dp, sq, ak, bt, wn, ur, ty, cd, rs, ns, o, b, ()) n = some ((udpB sp dp sq ak bt wn ur ty cd rs n ns o b, ()), ()) ∧ spec_UpperOk (2, sp, dp, sq, ak, bt, wn, ur, ty, cd, rs, ns, o, b, ()) n = some ((udpB sp dp sq ak bt wn ur ty cd rs n ns o b, ()), ()) := by
  obtain ⟨z1, z2⟩ := szU (sp := sp) (dp := dp) (sq := sq) (ak := ak) (bt := bt) (wn := wn) (ur := ur) (ty := ty) (cd := cd) (rs := rs) (ns := ns) (o := o) h.2
  have y6 : decide (0 ≤ (8 + ((b.length : Nat) : Int))) = true := decide_eq_true (by omega)
  have k0 : decide ((2 : Int) = 0) = false := rfl
  have k11 : decide ((2 : Int) = 1) = false := rfl
  have k12 : decide ((2 : Int) = 2) = true := rfl
  have k13 : decide ((2 : Int) = 3) = false := rfl
  have n44 : decide ((4 : Int) = 4) = true := rfl
  have n64 : decide ((6 : Int) = 4) = false := rfl
  have n66 : decide ((6 : Int) = 6) = true := rfl
  have wA := wordsI k hk [sp, dp] (by simp)
  have wB := wordsI k hk [wn, ur] (by simp)
  have wC0 := zerosI k hk [sq, ak, bt, wn, ur, ty, cd, rs, ((o.length : Nat) : Int)] (by simp)
  have z65 : ∀ x : Int, (inB x 0 65535 && decide (x = 0)) = decide (x = 0) := fun x => by by_cases h : x = 0 <;> simp [h, inB]
  have z65' : ∀ (x : Int) (c : Bool), (inB x 0 65535 && (decide (x = 0) && c)) = (decide (x = 0) && c) := fun x c => by rw [← Bool.and_assoc, z65]
  constructor
  · unfold impl_UpperOk impl_UpperOk_j0 impl_UpperOk_j7 impl_UpperOk_j8 impl_UpperOk_j5 impl_UpperOk_j6 impl_UpperOk_j4 impl_UpperOk_j3 impl_UpperOk_j2 impl_UpperOk_j1
    rcases hn with rfl | rfl <;>
    · simp only [n44, n64, n66, z1, y6, gt_not, decide_true, wA, wB, wC0, longI, inI, byteI, k0, k11, k12, k13, List.all_cons, List.all_nil, Bool.and_true, Option.bind_some, bn, bnn, andS, nandS, cself, Bool.true_and, cond_true, cond_false, Bool.or_true, Bool.or_false]
      refine pk1 ?_
      unfold udpB
      try simp only [n44, n64, decide_true, Bool.or_true, Bool.or_false, Bool.true_and]
      try ac_rfl
  · unfold spec_UpperOk spec_UpperOk_j0 spec_UpperOk_j1 spec_UpperOk_j2 spec_UpperOk_j3
    rcases hn with rfl | rfl <;>
    · simp only [n44, n64, n66, z2, y6, gt_not, decide_true, longS, inS, k0, k11, k12, k13, Option.bind_some, bn, bnn, andS, nandS, cself, Bool.true_and, cond_true, cond_false, Bool.or_true, Bool.or_false]
      refine pk1 ?_
      unfold udpB
      try simp only [n44, n64, decide_true, Bool.or_true, Bool.or_false, Bool.true_and]
      try ac_rfl
theorem goI (k : Nat) (hk : MM < k) (h : o.length ≤ 1100000 ∧ b.length ≤ 1100000) (hn : n = 4 ∨ n = 6) :
    impl_UpperOk k (3, sp, dp, sq, ak, bt, wn, ur, ty, cd, rs, ns, o, b, ()) n = some ((icmB sp dp sq ak bt wn ur ty cd rs ns o b, ()), ()) ∧ spec_UpperOk (3, sp, dp, sq, ak, bt, wn, ur, ty, cd, rs, ns, o, b, ()) n = some ((icmB sp dp sq ak bt wn ur ty cd rs ns o b, ()), ()) := by
  obtain ⟨z1, z2⟩ := szI (sp := sp) (dp := dp) (sq := sq) (ak := ak) (bt := bt) (wn := wn) (ur := ur) (ty := ty) (cd := cd) (rs := rs) (ns := ns) (o := o) h.2
  have y6 : decide (0 ≤ (8 + ((b.length : Nat) : Int))) = true := decide_eq_true (by omega)
  have k0 : decide ((3 : Int) = 0) = false := rfl
  have k11 : decide ((3 : Int) = 1) = false := rfl
  have k12 : decide ((3 : Int) = 2) = false := rfl
  have k13 : decide ((3 : Int) = 3) = true := rfl
  have n44 : decide ((4 : Int) = 4) = true := rfl
  have n64 : decide ((6 : Int) = 4) = false := rfl
  have n66 : decide ((6 : Int) = 6) = true := rfl
  have wA := wordsI k hk [sp, dp] (by simp)
  have wB := wordsI k hk [wn, ur] (by simp)
  have wC0 := zerosI k hk [sp, dp, sq, ak, bt, wn, ur, ((o.length : Nat) : Int)] (by simp)
  have z65 : ∀ x : Int, (inB x 0 65535 && decide (x = 0)) = decide (x = 0) := fun x => by by_cases h : x = 0 <;> simp [h, inB]
  have z65' : ∀ (x : Int) (c : Bool), (inB x 0 65535 && (decide (x = 0) && c)) = (decide (x = 0) && c) := fun x c => by rw [← Bool.and_assoc, z65]
  constructor
  · unfold impl_UpperOk impl_UpperOk_j0 impl_UpperOk_j7 impl_UpperOk_j8 impl_UpperOk_j5 impl_UpperOk_j6 impl_UpperOk_j4 impl_UpperOk_j3 impl_UpperOk_j2 impl_UpperOk_j1
    rcases hn with rfl | rfl <;>
    · simp only [n44, n64, n66, z1, y6, gt_not, decide_true, wA, wB, wC0, longI, inI, byteI, k0, k11, k12, k13, List.all_cons, List.all_nil, Bool.and_true, Option.bind_some, bn, bnn, andS, nandS, cself, Bool.true_and, cond_true, cond_false, Bool.or_true, Bool.or_false]
      refine pk1 ?_
      unfold icmB
      try simp only [n44, n64, decide_true, Bool.or_true, Bool.or_false, Bool.true_and]
      try ac_rfl
  · unfold spec_UpperOk spec_UpperOk_j0 spec_UpperOk_j1 spec_UpperOk_j2 spec_UpperOk_j3
    rcases hn with rfl | rfl <;>
    · simp only [n44, n64, n66, z2, y6, gt_not, decide_true, longS, inS, k0, k11, k12, k13, Option.bind_some, bn, bnn, andS, nandS, cself, Bool.true_and, cond_true, cond_false, Bool.or_true, Bool.or_false]
      refine pk1 ?_
      unfold icmB
      try simp only [n44, n64, decide_true, Bool.or_true, Bool.or_false, Bool.true_and]
      rw [← z65 sp, ← z65 dp]
      try ac_rfl
theorem goO (k : Nat) (hk : MM < k) (h : o.length ≤ 1100000 ∧ b.length ≤ 1100000) (hn : n = 4 ∨ n = 6) :
    impl_UpperOk k (0, sp, dp, sq, ak, bt, wn, ur, ty, cd, rs, ns, o, b, ()) n = some ((othB sp dp sq ak bt wn ur ty cd rs ns o b, ()), ()) ∧ spec_UpperOk (0, sp, dp, sq, ak, bt, wn, ur, ty, cd, rs, ns, o, b, ()) n = some ((othB sp dp sq ak bt wn ur ty cd rs ns o b, ()), ()) := by
  obtain ⟨z1, z2⟩ := szO (sp := sp) (dp := dp) (sq := sq) (ak := ak) (bt := bt) (wn := wn) (ur := ur) (ty := ty) (cd := cd) (rs := rs) (ns := ns) (o := o) h.2
  have y6 : decide (0 ≤ ((b.length : Nat) : Int)) = true := decide_eq_true (by omega)
  have k0 : decide ((0 : Int) = 0) = true := rfl
  have k11 : decide ((0 : Int) = 1) = false := rfl
  have k12 : decide ((0 : Int) = 2) = false := rfl
  have k13 : decide ((0 : Int) = 3) = false := rfl
  have n44 : decide ((4 : Int) = 4) = true := rfl
  have n64 : decide ((6 : Int) = 4) = false := rfl
  have n66 : decide ((6 : Int) = 6) = true := rfl
  have wA := wordsI k hk [sp, dp] (by simp)
  have wB := wordsI k hk [wn, ur] (by simp)
  have wC0 := zerosI k hk [sp, dp, sq, ak, bt, wn, ur, ty, cd, rs, ((o.length : Nat) : Int)] (by simp)
  have z65 : ∀ x : Int, (inB x 0 65535 && decide (x = 0)) = decide (x = 0) := fun x => by by_cases h : x = 0 <;> simp [h, inB]
  have z65' : ∀ (x : Int) (c : Bool), (inB x 0 65535 && (decide (x = 0) && c)) = (decide (x = 0) && c) := fun x c => by rw [← Bool.and_assoc, z65]
  constructor
  · unfold impl_UpperOk impl_UpperOk_j0 impl_UpperOk_j7 impl_UpperOk_j8 impl_UpperOk_j5 impl_UpperOk_j6 impl_UpperOk_j4 impl_UpperOk_j3 impl_UpperOk_j2 impl_UpperOk_j1
    rcases hn with rfl | rfl <;>
    · simp only [n44, n64, n66, z1, y6, gt_not, decide_true, wA, wB, wC0, longI, inI, byteI, k0, k11, k12, k13, List.all_cons, List.all_nil, Bool.and_true, Option.bind_some, bn, bnn, andS, nandS, cself, Bool.true_and, cond_true, cond_false, Bool.or_true, Bool.or_false]
      refine pk1 ?_
      unfold othB
      try simp only [n44, n64, decide_true, Bool.or_true, Bool.or_false, Bool.true_and]
      try ac_rfl
  · unfold spec_UpperOk spec_UpperOk_j0 spec_UpperOk_j1 spec_UpperOk_j2 spec_UpperOk_j3
    rcases hn with rfl | rfl <;>
    · simp only [n44, n64, n66, z2, y6, gt_not, decide_true, longS, inS, k0, k11, k12, k13, Option.bind_some, bn, bnn, andS, nandS, cself, Bool.true_and, cond_true, cond_false, Bool.or_true, Bool.or_false]
      refine pk1 ?_
      unfold othB
      try simp only [n44, n64, decide_true, Bool.or_true, Bool.or_false, Bool.true_and]
      rw [← z65 sp, ← z65 dp]
      try ac_rfl
theorem goX {kd : Int} (k : Nat) (hk : MM < k) (h0 : kd ≠ 0) (h1 : kd ≠ 1) (h2 : kd ≠ 2) (h3 : kd ≠ 3) (hn : n = 4 ∨ n = 6) :
    impl_UpperOk k (kd, sp, dp, sq, ak, bt, wn, ur, ty, cd, rs, ns, o, b, ()) n = some ((false, ()), ()) ∧ spec_UpperOk (kd, sp, dp, sq, ak, bt, wn, ur, ty, cd, rs, ns, o, b, ()) n = some ((false, ()), ()) := by
  obtain ⟨z1, z2⟩ := szX (sp := sp) (dp := dp) (sq := sq) (ak := ak) (bt := bt) (wn := wn) (ur := ur) (ty := ty) (cd := cd) (rs := rs) (ns := ns) (o := o) (b := b) h0 h1 h2 h3
  have k0 := decide_eq_false h0
  have k11 := decide_eq_false h1
  have k12 := decide_eq_false h2
  have k13 := decide_eq_false h3
  have n44 : decide ((4 : Int) = 4) = true := rfl
  have n64 : decide ((6 : Int) = 4) = false := rfl
  have n66 : decide ((6 : Int) = 6) = true := rfl
  have ot : decide ((0 : Int) ≤ -1) = false := rfl
  constructor
  · unfold impl_UpperOk impl_UpperOk_j0 impl_UpperOk_j7 impl_UpperOk_j8 impl_UpperOk_j5 impl_UpperOk_j6 impl_UpperOk_j4 impl_UpperOk_j3 impl_UpperOk_j2 impl_UpperOk_j1
    rcases hn with rfl | rfl <;>
    · simp only [n44, n64, n66, z1, ot, gt_not, decide_true, Option.bind_some, bn, bnn, cond_true, cond_false]
  · unfold spec_UpperOk spec_UpperOk_j0 spec_UpperOk_j1 spec_UpperOk_j2 spec_UpperOk_j3
    rcases hn with rfl | rfl <;>
    · simp only [n44, n64, n66, z2, ot, decide_true, longS, inS, k0, k11, k12, k13, Option.bind_some, bn, bnn, cself, cond_true, cond_false]
theorem goN (k : Nat) (u : D_Upper) (hn : ¬ (n = 4 ∨ n = 6)) :
    impl_UpperOk k u n = some ((false, ()), ()) ∧ spec_UpperOk u n = some ((false, ()), ()) := by
  have n4 : decide (n = 4) = false := decide_eq_false (fun h => hn (.inl h))
  have n6 : decide (n = 6) = false := decide_eq_false (fun h => hn (.inr h))
  constructor
  · unfold impl_UpperOk impl_UpperOk_j0 impl_UpperOk_j7 impl_UpperOk_j8 impl_UpperOk_j5 impl_UpperOk_j6 impl_UpperOk_j4 impl_UpperOk_j3 impl_UpperOk_j2 impl_UpperOk_j1; rw [n4, n6]; rfl
  · unfold spec_UpperOk spec_UpperOk_j0 spec_UpperOk_j1 spec_UpperOk_j2 spec_UpperOk_j3; rw [n4, n6]; rfl
end
def upB (u : D_Upper) (n : Int) : Bool := match u with
  | (kd, sp, dp, sq, ak, bt, wn, ur, ty, cd, rs, ns, o, b, _) => (decide (n = 4) || decide (n = 6)) && bif decide (kd = 1) then tcpB sp dp sq ak bt wn ur ty cd rs ns o b else bif decide (kd = 2) then udpB sp dp sq ak bt wn ur ty cd rs n ns o b else bif decide (kd = 3) then icmB sp dp sq ak bt wn ur ty cd rs ns o b else bif decide (kd = 0) then othB sp dp sq ak bt wn ur ty cd rs ns o b else false
theorem upOk (k : Nat) (hk : MM < k) (u : D_Upper) (n : Int) (h1 : (uO u).length ≤ 1100000) (h2 : (uB u).length ≤ 1100000) : impl_UpperOk k u n = some ((upB u n, ()), ()) ∧ spec_UpperOk u n = some ((upB u n, ()), ()) := by
  by_cases hn : n = 4 ∨ n = 6
  case neg =>
    obtain ⟨a, b⟩ := goN k u hn
    have n4 : decide (n = 4) = false := decide_eq_false (fun h => hn (.inl h))
    have n6 : decide (n = 6) = false := decide_eq_false (fun h => hn (.inr h))
    have e : upB u n = false := by unfold upB; rw [n4, n6]; rfl
    rw [a, b, e]; exact ⟨rfl, rfl⟩
  have nt : (decide (n = 4) || decide (n = 6)) = true := by rcases hn with rfl | rfl <;> rfl
  obtain ⟨kd, sp, dp, sq, ak, bt, wn, ur, ty, cd, rs, ns, o, b, ⟨⟩⟩ := u
  have hl : o.length ≤ 1100000 ∧ b.length ≤ 1100000 := ⟨h1, h2⟩
  unfold upB
  rw [nt]
  by_cases e1 : kd = 1
  · subst e1; exact goT k hk hl hn
  by_cases e2 : kd = 2
  · subst e2; exact goU k hk hl hn
  by_cases e3 : kd = 3
  · subst e3; exact goI k hk hl hn
  by_cases e0 : kd = 0
  · subst e0; exact goO k hk hl hn
  simp only [decide_eq_false e1, decide_eq_false e2, decide_eq_false e3, decide_eq_false e0, cond_false, Bool.and_false]
  exact goX k hk e0 e1 e2 e3 hn
theorem upB_shape {u : D_Upper} {n : Int} (h : upB u n = true) : (n = 4 ∨ n = 6) ∧
    ((∃ sp dp sq ak bt wn ur o b, u = upT sp dp sq ak bt wn ur o b ∧ (0 ≤ sp ∧ sp ≤ 65535) ∧ (0 ≤ dp ∧ dp ≤ 65535) ∧ (0 ≤ sq ∧ sq ≤ 4294967295) ∧ (0 ≤ ak ∧ ak ≤ 4294967295) ∧ (0 ≤ bt ∧ bt ≤ 4095) ∧ (0 ≤ wn ∧ wn ≤ 65535) ∧ (0 ≤ ur ∧ ur ≤ 65535) ∧ o.length ≤ 40 ∧ o.length % 4 = 0 ∧ 20 + o.length + b.length ≤ 1500) ∨
     (∃ sp dp ns b, u = upU sp dp ns b ∧ (0 ≤ sp ∧ sp ≤ 65535) ∧ (0 ≤ dp ∧ dp ≤ 65535) ∧ (ns = true → n = 4) ∧ 8 + b.length ≤ 1500) ∨
     (∃ ty cd rs b, u = upI ty cd rs b ∧ (0 ≤ ty ∧ ty ≤ 255) ∧ (0 ≤ cd ∧ cd ≤ 255) ∧ (0 ≤ rs ∧ rs ≤ 4294967295) ∧ 8 + b.length ≤ 1500) ∨
     (∃ b, u = upO b ∧ b.length ≤ 1500)) := by
  obtain ⟨kd, sp, dp, sq, ak, bt, wn, ur, ty, cd, rs, ns, o, b, ⟨⟩⟩ := u
  unfold upB at h
  rw [Bool.and_eq_true] at h
  obtain ⟨hn, h⟩ := h
  have hn' : n = 4 ∨ n = 6 := by simpa using hn
  refine ⟨hn', ?_⟩
  by_cases e1 : kd = 1
  · subst e1
    have h' : tcpB sp dp sq ak bt wn ur ty cd rs ns o b = true := h
    unfold tcpB longB at h'
    simp only [Bool.and_eq_true, inB_iff, decide_eq_true_eq, Bool.not_eq_true'] at h'
    obtain ⟨a1, a2, a3, a4, a5, a6, a7, a8, a9, rfl, rfl, rfl, rfl, a10⟩ := h'
    rw [Int.tmod_eq_emod_of_nonneg (by omega)] at a9
    exact .inl ⟨sp, dp, sq, ak, bt, wn, ur, o, b, rfl, a1, a2, a3, a4, a5, a6, a7, by omega, by omega, by omega⟩
  by_cases e2 : kd = 2
  · subst e2
    have h' : udpB sp dp sq ak bt wn ur ty cd rs n ns o b = true := h
    unfold udpB at h'
    simp only [Bool.and_eq_true, Bool.or_eq_true, inB_iff, decide_eq_true_eq, Bool.not_eq_true'] at h'
    obtain ⟨a1, a2, rfl, rfl, rfl, rfl, rfl, a3, rfl, rfl, rfl, a4, a5⟩ := h'
    have eo : o = [] := List.length_eq_zero_iff.1 (by omega)
    subst eo
    have hns : ns = true → n = 4 := fun e => a4.elim (fun q => by rw [e] at q; cases q) (fun q => q)
    exact .inr (.inl ⟨sp, dp, ns, b, rfl, a1, a2, hns, by omega⟩)
  by_cases e3 : kd = 3
  · subst e3
    have h' : icmB sp dp sq ak bt wn ur ty cd rs ns o b = true := h
    unfold icmB longB at h'
    simp only [Bool.and_eq_true, inB_iff, decide_eq_true_eq, Bool.not_eq_true'] at h'
    obtain ⟨rfl, rfl, rfl, rfl, rfl, rfl, rfl, a3, a4, a5, a6, rfl, a7⟩ := h'
    have eo : o = [] := List.length_eq_zero_iff.1 (by omega)
    subst eo
    exact .inr (.inr (.inl ⟨ty, cd, rs, b, rfl, a4, a5, a6, by omega⟩))
  by_cases e0 : kd = 0
  · subst e0
    have h' : othB sp dp sq ak bt wn ur ty cd rs ns o b = true := h
    unfold othB at h'
    simp only [Bool.and_eq_true, inB_iff, decide_eq_true_eq, Bool.not_eq_true'] at h'
    obtain ⟨rfl, rfl, rfl, rfl, rfl, rfl, rfl, a3, rfl, rfl, rfl, rfl, a7⟩ := h'
    have eo : o = [] := List.length_eq_zero_iff.1 (by omega)
    subst eo
    exact .inr (.inr (.inr ⟨b, rfl, by omega⟩))
  simp only [decide_eq_false e1, decide_eq_false e2, decide_eq_false e3, decide_eq_false e0, cond_false] at h
  cases h
end Go.Tw
