/- Facts on mirrors. -/
import Derived.Test.YtmnfadocihfiaaaGreatT24
import Derived.IntWalk
set_option linter.all false
namespace Go.Tw
open Go Go.RowKit
theorem w64 {n : Int} (h : -9223372036854775808 ≤ n ∧ n ≤ 9223372036854775807) : IntKind.wrap .i64 n = n := IntWalk.i64_in n h
theorem bif_t {α : Type} {b : Bool} {x y : α} (h : b = true) : cond b x y = x := by rw [h]; rfl
theorem bif_f {α : Type} {b : Bool} {x y : α} (h : b = false) : cond b x y = y := by rw [h]; rfl
theorem iter_succ {V O : Type} (step : (V → Option O) → V → Option O) (k : Nat) (v : V) : iter step (k + 1) v = step (iter step k) v := rfl
theorem getD_at {α : Type} (l : List α) (d : α) (i : Nat) (h : i < l.length) : l.getD i d = l[i] := by simp [List.getD, List.getElem?_eq_getElem h]
theorem drop_at {α : Type} (l : List α) (d : α) (i : Nat) (h : i < l.length) : l.drop i = l.getD i d :: l.drop (i + 1) := by
  rw [List.drop_eq_getElem_cons h, getD_at l d i h]
theorem getD_mem {α : Type} (l : List α) (d : α) (i : Nat) (h : i < l.length) : l.getD i d ∈ l := by rw [getD_at l d i h]; exact List.getElem_mem h
abbrev R1 (α : Type) := Option ((α × Unit) × Unit)
section
variable {α : Type}
def szStep (f : α → Int → R1 Int) (z : α) (rec : Unit × List α × Int × Int × Unit → Option ((Unit × Int × Unit) ⊕ (Unit × Int × Unit))) (v : Unit × List α × Int × Int × Unit) : Option ((Unit × Int × Unit) ⊕ (Unit × Int × Unit)) :=
  bif decide (v.2.2.2.1 < ((v.2.1.length : Nat) : Int)) then
    bif decide ((0 : Int) ≤ v.2.2.2.1) && decide (v.2.2.2.1 < ((v.2.1.length : Nat) : Int)) then
      bif decide (v.2.2.2.1.toNat < v.2.1.length) then
        (f (v.2.1.getD v.2.2.2.1.toNat z) v.2.2.1).bind fun t1 =>
          bif decide (t1.1.1 < (0 : Int)) then some (Sum.inl ((), (-1 : Int), ()))
          else rec ((), v.2.1, t1.1.1, IntKind.wrap .i64 (v.2.2.2.1 + (1 : Int)), ())
      else none
    else none
  else some (Sum.inr ((), v.2.2.1, ()))
def szList (f : α → Int → R1 Int) (z : α) (k : Nat) (x0 : List α) (x1 : Int) : R1 Int :=
  bif decide (IntKind.wrap .i64 (x1 - ((x0.length : Nat) : Int)) < (0 : Int)) then some (((-1 : Int), ()), ())
  else (iter (szStep f z) k ((), x0, IntKind.wrap .i64 (x1 - ((x0.length : Nat) : Int)), (0 : Int), ())).bind fun o1 => Sum.elim (fun a2 => some (a2.2, ())) (fun b3 => some (b3.2, ())) o1
def SzOk (M : Int) (f : α → Int → R1 Int) (W : α → Prop) (B : α → Prop) : Prop := ∀ e m, W e → 0 ≤ m → m ≤ M → ∃ n, f e m = some ((n, ()), ()) ∧ -1 ≤ n ∧ n ≤ m ∧ (0 ≤ n → B e)
def szFlat (x0 : List α) (x1 : Int) : R1 Int :=
  bif decide (IntKind.wrap .i64 (x1 - ((x0.length : Nat) : Int)) < (0 : Int)) then some (((-1 : Int), ()), ()) else some ((IntKind.wrap .i64 (x1 - ((x0.length : Nat) : Int)), ()), ())
def toStep (f : α → R1 α) (z : α) (rec : Unit × List α × List α × Int × Unit → Option (Unit × List α × Unit)) (v : Unit × List α × List α × Int × Unit) : Option (Unit × List α × Unit) :=
  bif decide (v.2.2.2.1 < ((v.2.1.length : Nat) : Int)) then
    bif decide ((0 : Int) ≤ v.2.2.2.1) && decide (v.2.2.2.1 < ((v.2.1.length : Nat) : Int)) then
      bif decide (v.2.2.2.1.toNat < v.2.1.length) then
        (f (v.2.1.getD v.2.2.2.1.toNat z)).bind fun t1 =>
          bif decide ((0 : Int) ≤ v.2.2.2.1) && decide (v.2.2.2.1 < ((v.2.2.1.length : Nat) : Int)) then
            bif decide (v.2.2.2.1.toNat < v.2.2.1.length) then rec ((), v.2.1, v.2.2.1.set v.2.2.2.1.toNat t1.1.1, IntKind.wrap .i64 (v.2.2.2.1 + (1 : Int)), ())
            else none
          else none
      else none
    else none
  else some ((), v.2.2.1, ())
def toList (f : α → R1 α) (z d : α) (s : Int) (k : Nat) (x0 : List α) : R1 (List α) :=
  bif (decide ((0 : Int) ≤ ((x0.length : Nat) : Int)) && decide (((x0.length : Nat) : Int) ≤ ((x0.length : Nat) : Int))) && decide (s * ((x0.length : Nat) : Int) ≤ (1099511627776 : Int)) then
    (iter (toStep f z) k ((), x0, List.replicate x0.length d, (0 : Int), ())).bind fun o1 => some (o1.2, ())
  else none
def eqStep (f : α → α → R1 Bool) (z : α) (rec : Unit × List α × List α × Int × Unit → Option ((Unit × Bool × Unit) ⊕ (Unit × Unit))) (v : Unit × List α × List α × Int × Unit) : Option ((Unit × Bool × Unit) ⊕ (Unit × Unit)) :=
  bif decide (v.2.2.2.1 < ((v.2.1.length : Nat) : Int)) then
    bif decide ((0 : Int) ≤ v.2.2.2.1) && decide (v.2.2.2.1 < ((v.2.1.length : Nat) : Int)) then
      bif decide (v.2.2.2.1.toNat < v.2.1.length) then
        bif decide ((0 : Int) ≤ v.2.2.2.1) && decide (v.2.2.2.1 < ((v.2.2.1.length : Nat) : Int)) then
          bif decide (v.2.2.2.1.toNat < v.2.2.1.length) then
            (f (v.2.1.getD v.2.2.2.1.toNat z) (v.2.2.1.getD v.2.2.2.1.toNat z)).bind fun t1 =>
              bif !t1.1.1 then some (Sum.inl ((), false, ()))
              else rec ((), v.2.1, v.2.2.1, IntKind.wrap .i64 (v.2.2.2.1 + (1 : Int)), ())
          else none
        else none
      else none
    else none
  else some (Sum.inr ((), ()))
def eqList (f : α → α → R1 Bool) (z : α) (k : Nat) (x0 x1 : List α) : R1 Bool :=
  bif !decide (((x0.length : Nat) : Int) = ((x1.length : Nat) : Int)) then some ((false, ()), ())
  else (iter (eqStep f z) k ((), x0, x1, (0 : Int), ())).bind fun o1 => Sum.elim (fun a2 => some (a2.2, ())) (fun b3 => some ((true, ()), ())) o1
end
end Go.Tw
