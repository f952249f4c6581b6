/- Facts on mirrors. -/
import Derived.Test.YtemcbhjheebnnaaGreatPq5
set_option linter.all false
set_option maxRecDepth 100000
namespace Go.Tw
open Go Go.RowKit
open Go.IntKind renaming wrap → Wr
section
set_option maxHeartbeats 8000000
section
variable (k : Nat) (hk : MM < k) (d : List Int) (hb : az d) (s t : ar) (hs : iw s t = true)
theorem ng (b : Bool) {α : Type} (x y : α) : (bif (!b) then x else y) = bif b then y else x := by cases b <;> rfl
theorem pr {α β : Type} (b : Bool) (x y : α) (m n : β) : (bif b then some (((x, m, ()), ()) : (α × β × Unit) × Unit) else some ((y, n, ()), ())) = some (((bif b then ((x, m) : α × β) else (y, n)).1, (bif b then ((x, m) : α × β) else (y, n)).2, ()), ()) := by cases b <;> rfl
theorem Ng (d : List Int) (hb : az d) (h : 12 < d.length) : hT d % 4 = 0 ∧ hT d ≤ 60 ∧ Wr .i64 (4 * Wr .i64 (d.getD 12 0 / 16)) = ((hT d : Nat) : Int) := by
  have g := hb _ (cb d 0 12 h)
  have e1 : Wr .i64 (d.getD 12 0 / 16) = d.getD 12 0 / 16 := bL (by omega)
  have e2 : Wr .i64 (4 * (d.getD 12 0 / 16)) = 4 * (d.getD 12 0 / 16) := bL (by omega)
  unfold hT
  refine ⟨by omega, by omega, ?_⟩
  rw [e1, e2]; omega
include hk hb hs
end
end
end Go.Tw
