/- Facts on mirrors. -/
import Derived.Test.YtmnfadocihfiaaaGreatPp1
set_option linter.all false
set_option maxRecDepth 100000
set_option maxHeartbeats 1100000
namespace Go.Tw
open Go Go.RowKit
theorem bnn {α : Type} (b : Bool) (X Y : α) : (bif (!(!b)) then X else Y) = bif b then X else Y := by cases b <;> rfl
theorem bn {α : Type} (b : Bool) (X Y : α) : (bif (!b) then X else Y) = bif b then Y else X := by cases b <;> rfl
theorem andS (b c : Bool) : (bif b then some ((c, ()), ()) else some ((false, ()), ())) = some ((b && c, ()), ()) := by cases b <;> rfl
theorem nandS (b c : Bool) : (bif b then some ((false, ()), ()) else some ((c, ()), ())) = some ((!b && c, ()), ()) := by cases b <;> rfl
def inB (x a b : Int) : Bool := decide (a ≤ x) && decide (x ≤ b)
theorem inI (x a b : Int) : impl_within x a b = some ((inB x a b, ()), ()) := within_eq x a b
theorem inS (x b : Int) : spec_l05In x b = some ((inB x 0 b, ()), ()) := by
  unfold spec_l05In inB
  cases decide (0 ≤ x) <;> rfl
theorem wordI (x : Int) : impl_isWord x = some ((inB x 0 65535, ()), ()) := by unfold impl_isWord; rw [inI]; rfl
theorem byteI (x : Int) : impl_isByte x = some ((inB x 0 255, ()), ()) := by unfold impl_isByte; rw [inI]; rfl
theorem inB_iff {x a b : Int} : inB x a b = true ↔ a ≤ x ∧ x ≤ b := by unfold inB; simp
def ofB (a : D_Addr) (n : Int) : Bool := addrB a && decide (a.1 = n)
theorem ofI (a : D_Addr) (n : Int) : impl_isAddrOf a n = some ((ofB a n, ()), ()) := by
  unfold impl_isAddrOf ofB
  rw [addrI, Option.bind_some, andS]
def fourB (f : D_Four) : Bool := inB f.1 0 63 && (inB f.2.1 0 3 && (inB f.2.2.1 0 65535 && (inB f.2.2.2.1 0 7 && (inB f.2.2.2.2.1 0 8191 && (inB f.2.2.2.2.2.1 0 255 && (inB f.2.2.2.2.2.2.1 0 255 && (ofB f.2.2.2.2.2.2.2.1 4 && (ofB f.2.2.2.2.2.2.2.2.1 4 && (decide (((f.2.2.2.2.2.2.2.2.2.1.length : Nat) : Int) ≤ 40) && (decide (Int.tmod ((f.2.2.2.2.2.2.2.2.2.1.length : Nat) : Int) 4 = 0) && decide (20 + ((f.2.2.2.2.2.2.2.2.2.1.length : Nat) : Int) + ((f.2.2.2.2.2.2.2.2.2.2.1.length : Nat) : Int) ≤ 1500)))))))))))
abbrev fO (f : D_Four) : List Int := f.2.2.2.2.2.2.2.2.2.1
abbrev fB (f : D_Four) : List Int := f.2.2.2.2.2.2.2.2.2.2.1
theorem sizeI (f : D_Four) (h1 : (fO f).length ≤ 1100000) (h2 : (fB f).length ≤ 1100000) : impl_fourSize f = some ((20 + (((fO f).length : Nat) : Int) + (((fB f).length : Nat) : Int), ()), ()) := by
  unfold impl_fourSize impl_fourHead
  have h1' : f.2.2.2.2.2.2.2.2.2.1.length ≤ 1100000 := h1
  have h2' : f.2.2.2.2.2.2.2.2.2.2.1.length ≤ 1100000 := h2
  simp only [Option.bind_some]
  rw [w64 (n := 20 + _) (by omega), w64 (by omega)]
theorem fourI (f : D_Four) (h1 : (fO f).length ≤ 1100000) (h2 : (fB f).length ≤ 1100000) : impl_FourOk f = some ((fourB f, ()), ()) := by
  unfold impl_FourOk
  simp only [inI, wordI, byteI, ofI, sizeI f h1 h2, Option.bind_some, bnn, bn, andS, nandS]
  rfl
theorem fourS (f : D_Four) (h1 : (fO f).length ≤ 1100000) (h2 : (fB f).length ≤ 1100000) : spec_FourOk f = some ((fourB f, ()), ()) := by
  unfold spec_FourOk
  simp only [inS, addrS, Option.bind_some, bnn, bn, andS, nandS]
  have h1' : f.2.2.2.2.2.2.2.2.2.1.length ≤ 1100000 := h1
  have h2' : f.2.2.2.2.2.2.2.2.2.2.1.length ≤ 1100000 := h2
  unfold fourB ofB
  generalize f.2.2.2.2.2.2.2.2.2.1.length = n1 at h1' ⊢
  generalize f.2.2.2.2.2.2.2.2.2.2.1.length = n2 at h2' ⊢
  rw [w64 (n := 1480 - (n1 : Int)) (by omega)]
  have e : decide ((n2 : Int) ≤ 1480 - (n1 : Int)) = decide (20 + (n1 : Int) + (n2 : Int) ≤ 1500) := by
    by_cases h : (n2 : Int) ≤ 1480 - (n1 : Int)
    · rw [decide_eq_true h, decide_eq_true (by omega)]
    · rw [decide_eq_false h, decide_eq_false (by omega)]
  have e2 : (!decide (40 < (n1 : Int))) = decide ((n1 : Int) ≤ 40) := by
    by_cases h : (n1 : Int) ≤ 40
    · rw [decide_eq_true h, decide_eq_false (by omega)]; rfl
    · rw [decide_eq_false h, decide_eq_true (by omega)]; rfl
  rw [e, e2]
  generalize addrB f.2.2.2.2.2.2.2.1 = x8
  generalize addrB f.2.2.2.2.2.2.2.2.1 = x9
  generalize decide (f.2.2.2.2.2.2.2.1.1 = 4) = y1
  generalize decide (f.2.2.2.2.2.2.2.2.1.1 = 4) = y2
  cases x8 <;> cases x9 <;> cases y1 <;> cases y2 <;> simp
end Go.Tw
