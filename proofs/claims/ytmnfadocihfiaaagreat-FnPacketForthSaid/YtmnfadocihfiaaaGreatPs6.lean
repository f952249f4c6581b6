/- Facts on mirrors. -/
import Derived.Test.YtmnfadocihfiaaaGreatPs5
import Derived.Test.YtmnfadocihfiaaaGreatPq5
set_option linter.all false
set_option maxRecDepth 100000
set_option maxHeartbeats 8000000
namespace Go.Tw
open Go Go.RowKit
def aZ (a : D_Addr) : Bool := decide (a.1 = 0) && (decide (a.2.1 = 0) && (decide (a.2.2.1 = 0) && (decide (a.2.2.2.1 = 0) && (decide (a.2.2.2.2.1 = 0) && true))))
def noS (s : D_Six) : Bool := decide (s.1 = 0) && (decide (s.2.1 = 0) && (decide (s.2.2.1 = 0) && (decide (s.2.2.2.1 = 0) && (aZ s.2.2.2.2.1 && (aZ s.2.2.2.2.2.1 && (decide (((s.2.2.2.2.2.2.1.length : Nat) : Int) = 0) && decide (((s.2.2.2.2.2.2.2.1.length : Nat) : Int) = 0)))))))
def noF (f : D_Four) : Bool := decide (f.1 = 0) && (decide (f.2.1 = 0) && (decide (f.2.2.1 = 0) && (decide (f.2.2.2.1 = 0) && (decide (f.2.2.2.2.1 = 0) && (decide (f.2.2.2.2.2.1 = 0) && (decide (f.2.2.2.2.2.2.1 = 0) && (aZ f.2.2.2.2.2.2.2.1 && (aZ f.2.2.2.2.2.2.2.2.1 && (decide (((f.2.2.2.2.2.2.2.2.2.1.length : Nat) : Int) = 0) && decide (((f.2.2.2.2.2.2.2.2.2.2.1.length : Nat) : Int) = 0))))))))))
theorem noSS (s : D_Six) : spec_l08NoSix s = some ((noS s, ()), ()) := by
  unfold spec_l08NoSix noS aZ; simp only [andS]
theorem noFS (f : D_Four) : spec_l08NoFour f = some ((noF f, ()), ()) := by
  unfold spec_l08NoFour noF aZ; simp only [andS]
theorem noSI (k : Nat) (hk : MM < k) (s : D_Six) : impl_isZeroSix k s = some ((noS s, ()), ()) := by
  have z := zerosI k hk [s.1, s.2.1, s.2.2.1, s.2.2.2.1, ((s.2.2.2.2.2.2.1.length : Nat) : Int), ((s.2.2.2.2.2.2.2.1.length : Nat) : Int)] (by simp)
  unfold impl_isZeroSix
  simp only [z, Option.bind_some, andS, List.all_cons, List.all_nil]
  refine pk1 ?_
  unfold noS aZ
  simp only [Bool.and_true]
  ac_rfl
theorem noFI (k : Nat) (hk : MM < k) (f : D_Four) : impl_isZeroFour k f = some ((noF f, ()), ()) := by
  have z := zerosI k hk [f.1, f.2.1, f.2.2.1, f.2.2.2.1, f.2.2.2.2.1, f.2.2.2.2.2.1, f.2.2.2.2.2.2.1, ((f.2.2.2.2.2.2.2.2.2.1.length : Nat) : Int), ((f.2.2.2.2.2.2.2.2.2.2.1.length : Nat) : Int)] (by simp)
  unfold impl_isZeroFour
  simp only [z, Option.bind_some, andS, List.all_cons, List.all_nil]
  refine pk1 ?_
  unfold noF aZ
  simp only [Bool.and_true]
  ac_rfl
def kindG (p v : Int) : Int := bif inB p 0 255 then kindP p v else -1
theorem kgI (p v : Int) (hv : v = 4 ∨ v = 6) : impl_UpperKind p v = some ((kindG p v, ()), ()) := by
  cases h : inB p 0 255
  · unfold impl_UpperKind kindG; simp only [byteI, h, Option.bind_some]; rfl
  · rw [knI p v h hv]; unfold kindG; rw [h]; rfl
theorem kgS (p v : Int) (hv : v = 4 ∨ v = 6) : spec_UpperKind p v = some ((kindG p v, ()), ()) := by
  cases h : inB p 0 255
  · unfold spec_UpperKind kindG; simp only [inS, h, Option.bind_some]; rfl
  · rw [knS p v h hv]; unfold kindG; rw [h]; rfl
abbrev wE (e : D_Ether) (l : List Int) : D_Ether := (e.1, e.2.1, e.2.2.1, e.2.2.2.1, l, ())
abbrev wF (f : D_Four) (l : List Int) : D_Four := (f.1, f.2.1, f.2.2.1, f.2.2.2.1, f.2.2.2.2.1, f.2.2.2.2.2.1, f.2.2.2.2.2.2.1, f.2.2.2.2.2.2.2.1, f.2.2.2.2.2.2.2.2.1, f.2.2.2.2.2.2.2.2.2.1, l, ())
abbrev wS (s : D_Six) (l : List Int) : D_Six := (s.1, s.2.1, s.2.2.1, s.2.2.2.1, s.2.2.2.2.1, s.2.2.2.2.2.1, s.2.2.2.2.2.2.1, l, ())
def emp (P : D_Packet) : Bool := decide (((P.2.1.2.2.2.2.1.length : Nat) : Int) = 0) && (decide (((P.2.2.1.2.2.2.2.2.2.2.2.2.2.1.length : Nat) : Int) = 0) && decide (((P.2.2.2.1.2.2.2.2.2.2.2.1.length : Nat) : Int) = 0))
def by4 (P : D_Packet) : List Int := upBy P.2.2.2.2.1 P.2.2.1.2.2.2.2.2.2.2.1 P.2.2.1.2.2.2.2.2.2.2.2.1
def by6 (P : D_Packet) : List Int := upBy P.2.2.2.2.1 P.2.2.2.1.2.2.2.2.1 P.2.2.2.1.2.2.2.2.2.1
def in4 (P : D_Packet) : Bool := upGood P.2.2.2.2.1 P.2.2.1.2.2.2.2.2.2.2.1 P.2.2.1.2.2.2.2.2.2.2.2.1 && (fourB (wF P.2.2.1 (by4 P)) && decide (P.2.2.2.2.1.1 = bif pieceB (wF P.2.2.1 (by4 P)) then 0 else kindG P.2.2.1.2.2.2.2.2.2.1 4))
def in6 (P : D_Packet) : Bool := upGood P.2.2.2.2.1 P.2.2.2.1.2.2.2.2.1 P.2.2.2.1.2.2.2.2.2.1 && (sixB (wS P.2.2.2.1 (by6 P)) && decide (P.2.2.2.2.1.1 = kindG P.2.2.2.1.2.2.2.1 6))
def e4 (P : D_Packet) : D_Ether := wE P.2.1 (fBy (wF P.2.2.1 (by4 P)) ++ P.2.2.2.2.2.1)
def e6 (P : D_Packet) : D_Ether := wE P.2.1 (sixBy (wS P.2.2.2.1 (by6 P)) ++ P.2.2.2.2.2.1)
def ok4 (P : D_Packet) : Bool := emp P && (noS P.2.2.2.1 && (decide (P.2.1.2.2.2.1 = 2048) && (in4 P && ethB (e4 P))))
def ok6 (P : D_Packet) : Bool := emp P && (noF P.2.2.1 && (decide (P.2.1.2.2.2.1 = 34525) && (in6 P && ethB (e6 P))))
def pkGood (P : D_Packet) : Bool := bif decide (P.1 = 4) then ok4 P else bif decide (P.1 = 6) then ok6 P else false
def pkE (P : D_Packet) : D_Ether := bif decide (P.1 = 4) then e4 P else e6 P
def pkBy (P : D_Packet) : List Int := bif pkGood P then etherBy (pkE P) else []
structure PB (P : D_Packet) : Prop where
  fo : (fO P.2.2.1).length ≤ 1048576
  fob : bytesP (fO P.2.2.1)
  se : (sE P.2.2.2.1).length ≤ 1048576
  sx : ∀ x ∈ sE P.2.2.2.1, x.2.1.length ≤ 1048576
  uo : (uO P.2.2.2.2.1).length ≤ 1048576
  uob : bytesP (uO P.2.2.2.2.1)
  ub : (uB P.2.2.2.2.1).length ≤ 1048576
  ubb : bytesP (uB P.2.2.2.2.1)
  pd : P.2.2.2.2.2.1.length ≤ 1048576
theorem fBy_le (f : D_Four) : (fBy f).length ≤ 1600 := by
  unfold fBy
  cases h : fourB f
  · exact Nat.zero_le _
  · obtain ⟨_, _, _, _, _, _, _, b1, b2⟩ := four_rng h
    have a1 := addrBy_le f.2.2.2.2.2.2.2.1
    have a2 := addrBy_le f.2.2.2.2.2.2.2.2.1
    simp only [cond_true, List.length_append]
    unfold hdBc; simp only [List.length_append, List.length_cons, List.length_nil, putB_len]; omega
theorem sixBy_le (s : D_Six) : (sixBy s).length ≤ 1800 := by
  unfold sixBy
  cases h : sixB s
  · exact Nat.zero_le _
  · obtain ⟨_, _, b1, b2, b4⟩ := six_rng h
    have b3 := xSz_b _ 3 b1 b2
    have hl := hd6_len s
    have xl := exBy_len (sE s) s.2.2.2.1
    simp only [cond_true, List.length_append]; omega
section
variable (k : Nat) (hk : MM < k) (P : D_Packet) (B : PB P)
include hk B
theorem inI4 (h4 : P.1 = 4) : ∃ l, impl_Packet_inner k P = some ((l, in4 P, ()), ()) ∧ (in4 P = true → l = fBy (wF P.2.2.1 (by4 P))) ∧ l.length ≤ 1800 := by
  have d4 : decide (P.1 = 4) = true := decide_eq_true h4
  have ends : impl_Packet_ends P = some ((P.2.2.1.2.2.2.2.2.2.2.1, P.2.2.1.2.2.2.2.2.2.2.2.1, ()), ()) := by unfold impl_Packet_ends; rw [d4]; rfl
  have s1 := (usumIS k hk P.2.2.2.2.1 P.2.2.1.2.2.2.2.2.2.2.1 P.2.2.1.2.2.2.2.2.2.2.2.1 (Nat.le_trans B.uo (by decide)) (Nat.le_trans B.ub (by decide)) B.uob B.ubb).1
  have s2 := usum_neg k hk P.2.2.2.2.1 P.2.2.1.2.2.2.2.2.2.2.1 P.2.2.1.2.2.2.2.2.2.2.2.1 (Nat.le_trans B.uo (by decide)) (Nat.le_trans B.ub (by decide)) B.uob B.ubb
  have s3 := (upByIS k hk P.2.2.2.2.1 P.2.2.1.2.2.2.2.2.2.2.1 P.2.2.1.2.2.2.2.2.2.2.2.1 (Nat.le_trans B.uo (by decide)) (Nat.le_trans B.ub (by decide)) B.uob B.ubb).1
  have s4 := (upBy_ok k hk P.2.2.2.2.1 P.2.2.1.2.2.2.2.2.2.2.1 P.2.2.1.2.2.2.2.2.2.2.2.1 (Nat.le_trans B.uo (by decide)) (Nat.le_trans B.ub (by decide)) B.uob B.ubb).2
  have lb : (fB (wF P.2.2.1 (by4 P))).length ≤ 1100000 := Nat.le_trans s4 (by decide)
  have lo : (fO (wF P.2.2.1 (by4 P))).length ≤ 1100000 := Nat.le_trans B.fo (by decide)
  have p1 := pieceI (wF P.2.2.1 (by4 P)) lo lb
  have p2 := fByI k hk (wF P.2.2.1 (by4 P)) lo lb B.fob
  have p3 := fourI (wF P.2.2.1 (by4 P)) lo lb
  unfold by4 at p1 p2 p3
  unfold in4 by4
  unfold impl_Packet_inner
  simp only [ends, s1, s2, s3, d4, Option.bind_some, cond_true, bn, p1, p2, p3, kgI _ 4 (.inl rfl)]
  cases upGood P.2.2.2.2.1 P.2.2.1.2.2.2.2.2.2.2.1 P.2.2.1.2.2.2.2.2.2.2.2.1
  · exact ⟨[], rfl, (fun h => by cases h), Nat.zero_le _⟩
  refine ⟨fBy (wF P.2.2.1 (upBy P.2.2.2.2.1 P.2.2.1.2.2.2.2.2.2.2.1 P.2.2.1.2.2.2.2.2.2.2.2.1)), ?_, fun _ => rfl, Nat.le_trans (fBy_le _) (by decide)⟩
  simp only [cond_true, Bool.true_and]
  cases pieceB (wF P.2.2.1 (upBy P.2.2.2.2.1 P.2.2.1.2.2.2.2.2.2.2.1 P.2.2.1.2.2.2.2.2.2.2.2.1)) <;> cases fourB (wF P.2.2.1 (upBy P.2.2.2.2.1 P.2.2.1.2.2.2.2.2.2.2.1 P.2.2.1.2.2.2.2.2.2.2.2.1)) <;> rfl
theorem inI6 (h4 : P.1 = 6) : ∃ l, impl_Packet_inner k P = some ((l, in6 P, ()), ()) ∧ (in6 P = true → l = sixBy (wS P.2.2.2.1 (by6 P))) ∧ l.length ≤ 1800 := by
  have d4 : decide (P.1 = 4) = false := decide_eq_false (by omega)
  have ends : impl_Packet_ends P = some ((P.2.2.2.1.2.2.2.2.1, P.2.2.2.1.2.2.2.2.2.1, ()), ()) := by unfold impl_Packet_ends; rw [d4]; rfl
  have s1 := (usumIS k hk P.2.2.2.2.1 P.2.2.2.1.2.2.2.2.1 P.2.2.2.1.2.2.2.2.2.1 (Nat.le_trans B.uo (by decide)) (Nat.le_trans B.ub (by decide)) B.uob B.ubb).1
  have s2 := usum_neg k hk P.2.2.2.2.1 P.2.2.2.1.2.2.2.2.1 P.2.2.2.1.2.2.2.2.2.1 (Nat.le_trans B.uo (by decide)) (Nat.le_trans B.ub (by decide)) B.uob B.ubb
  have s3 := (upByIS k hk P.2.2.2.2.1 P.2.2.2.1.2.2.2.2.1 P.2.2.2.1.2.2.2.2.2.1 (Nat.le_trans B.uo (by decide)) (Nat.le_trans B.ub (by decide)) B.uob B.ubb).1
  have s4 := (upBy_ok k hk P.2.2.2.2.1 P.2.2.2.1.2.2.2.2.1 P.2.2.2.1.2.2.2.2.2.1 (Nat.le_trans B.uo (by decide)) (Nat.le_trans B.ub (by decide)) B.uob B.ubb).2
  have lb : (sB (wS P.2.2.2.1 (by6 P))).length ≤ 1100000 := Nat.le_trans s4 (by decide)
  have hx : ∀ x ∈ sE (wS P.2.2.2.1 (by6 P)), x.2.1.length ≤ 1100000 := fun x hx => Nat.le_trans (B.sx x hx) (by decide)
  have p2 := sixByI k hk (wS P.2.2.2.1 (by6 P)) B.se hx lb
  have p3 := sixOI k hk (wS P.2.2.2.1 (by6 P)) B.se hx lb
  unfold by6 at p2 p3
  unfold in6 by6
  unfold impl_Packet_inner
  simp only [ends, s1, s2, s3, d4, Option.bind_some, cond_false, bn, p2, p3, kgI _ 6 (.inr rfl)]
  cases upGood P.2.2.2.2.1 P.2.2.2.1.2.2.2.2.1 P.2.2.2.1.2.2.2.2.2.1
  · exact ⟨[], rfl, (fun h => by cases h), Nat.zero_le _⟩
  refine ⟨sixBy (wS P.2.2.2.1 (upBy P.2.2.2.2.1 P.2.2.2.1.2.2.2.2.1 P.2.2.2.1.2.2.2.2.2.1)), ?_, fun _ => rfl, sixBy_le _⟩
  simp only [cond_true, Bool.true_and]
  cases sixB (wS P.2.2.2.1 (upBy P.2.2.2.2.1 P.2.2.2.1.2.2.2.2.1 P.2.2.2.1.2.2.2.2.2.1)) <;> rfl
theorem zeI : impl_areZero k [((P.2.1.2.2.2.2.1.length : Nat) : Int), ((P.2.2.1.2.2.2.2.2.2.2.2.2.2.1.length : Nat) : Int), ((P.2.2.2.1.2.2.2.2.2.2.2.1.length : Nat) : Int)] = some ((emp P, ()), ()) := by
  have z := zerosI k hk [((P.2.1.2.2.2.2.1.length : Nat) : Int), ((P.2.2.1.2.2.2.2.2.2.2.2.2.2.1.length : Nat) : Int), ((P.2.2.2.1.2.2.2.2.2.2.2.1.length : Nat) : Int)] (by simp)
  rw [z]
  simp only [List.all_cons, List.all_nil, Bool.and_true]
  rfl
theorem frameI : ∃ e, impl_Packet_frame k P = some ((e, pkGood P, ()), ()) ∧ (pkGood P = true → e = pkE P) ∧ (pkGood P = true → (eB e).length ≤ 1100000) := by
  have ze := zeI k hk P B
  by_cases h4 : P.1 = 4
  · obtain ⟨l, i1, i2, i3⟩ := inI4 k hk P B h4
    have d4 : decide (P.1 = 4) = true := decide_eq_true h4
    have d6 : decide (P.1 = 6) = false := decide_eq_false (by omega)
    have c := catB k hk [l, P.2.2.2.2.2.1] (by simp) (by have := B.pd; simp only [List.flatten_cons, List.flatten_nil, List.length_append, List.length_nil]; omega)
    simp only [List.flatten_cons, List.flatten_nil, List.append_nil] at c
    have hl : (eB (wE P.2.1 (l ++ P.2.2.2.2.2.1))).length ≤ 1100000 := by
      have := B.pd
      show (l ++ P.2.2.2.2.2.1).length ≤ 1100000
      rw [List.length_append]; omega
    have ok := ethI (wE P.2.1 (l ++ P.2.2.2.2.2.1)) hl
    have g : pkGood P = ok4 P := by unfold pkGood; rw [d4]; rfl
    have e : pkE P = e4 P := by unfold pkE; rw [d4]; rfl
    rw [g, e]
    unfold impl_Packet_frame impl_Packet_frame_j0 impl_Packet_frame_j1
    simp only [d4, d6, noSI k hk, ze, i1, c, ok, Option.bind_some, cond_true, cond_false, bn, bnn]
    cases hi : in4 P
    · unfold ok4
      rw [hi]
      cases emp P <;> cases noS P.2.2.2.1 <;> cases decide (P.2.1.2.2.2.1 = 2048) <;> exact ⟨_, rfl, (fun h => by cases h), (fun h => by cases h)⟩
    · have el := i2 hi
      have ee : e4 P = wE P.2.1 (l ++ P.2.2.2.2.2.1) := by unfold e4; rw [← el]
      unfold ok4
      rw [hi, ee]
      cases emp P <;> cases noS P.2.2.2.1 <;> cases decide (P.2.1.2.2.2.1 = 2048) <;> first | exact ⟨_, rfl, (fun h => by cases h), (fun h => by cases h)⟩ | exact ⟨_, rfl, (fun _ => rfl), (fun _ => hl)⟩
  have d4 : decide (P.1 = 4) = false := decide_eq_false h4
  by_cases h6 : P.1 = 6
  · obtain ⟨l, i1, i2, i3⟩ := inI6 k hk P B h6
    have d6 : decide (P.1 = 6) = true := decide_eq_true h6
    have c := catB k hk [l, P.2.2.2.2.2.1] (by simp) (by have := B.pd; simp only [List.flatten_cons, List.flatten_nil, List.length_append, List.length_nil]; omega)
    simp only [List.flatten_cons, List.flatten_nil, List.append_nil] at c
    have hl : (eB (wE P.2.1 (l ++ P.2.2.2.2.2.1))).length ≤ 1100000 := by
      have := B.pd
      show (l ++ P.2.2.2.2.2.1).length ≤ 1100000
      rw [List.length_append]; omega
    have ok := ethI (wE P.2.1 (l ++ P.2.2.2.2.2.1)) hl
    have g : pkGood P = ok6 P := by unfold pkGood; rw [d4, d6]; rfl
    have e : pkE P = e6 P := by unfold pkE; rw [d4]; rfl
    rw [g, e]
    unfold impl_Packet_frame impl_Packet_frame_j0 impl_Packet_frame_j1
    simp only [d4, d6, noFI k hk, ze, i1, c, ok, Option.bind_some, cond_true, cond_false, bn, bnn]
    cases hi : in6 P
    · unfold ok6
      rw [hi]
      cases emp P <;> cases noF P.2.2.1 <;> cases decide (P.2.1.2.2.2.1 = 34525) <;> exact ⟨_, rfl, (fun h => by cases h), (fun h => by cases h)⟩
    · have el := i2 hi
      have ee : e6 P = wE P.2.1 (l ++ P.2.2.2.2.2.1) := by unfold e6; rw [← el]
      unfold ok6
      rw [hi, ee]
      cases emp P <;> cases noF P.2.2.1 <;> cases decide (P.2.1.2.2.2.1 = 34525) <;> first | exact ⟨_, rfl, (fun h => by cases h), (fun h => by cases h)⟩ | exact ⟨_, rfl, (fun _ => rfl), (fun _ => hl)⟩
  have d6 : decide (P.1 = 6) = false := decide_eq_false h6
  have g : pkGood P = false := by unfold pkGood; rw [d4, d6]; rfl
  rw [g]
  unfold impl_Packet_frame impl_Packet_frame_j0 impl_Packet_frame_j1
  simp only [d4, d6, cond_false]
  exact ⟨_, rfl, (fun h => by cases h), (fun h => by cases h)⟩
theorem pkByI : impl_PacketBytes k P = some ((pkBy P, ()), ()) := by
  obtain ⟨e, e1, e2, e3⟩ := frameI k hk P B
  unfold impl_PacketBytes pkBy
  rw [e1]
  simp only [Option.bind_some, bn]
  cases h : pkGood P
  · rfl
  · have hl := e3 h
    have e2 := e2 h
    subst e2
    simp only [cond_true, etherByI k hk _ hl, Option.bind_some]
end
end Go.Tw
