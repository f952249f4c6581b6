/- Facts on mirrors. -/
import Derived.Test.YtmnfadocihfiaaaGreatPu0
set_option linter.all false
namespace Go.Tw
open Go Go.RowKit
abbrev MM : Int := 1048576
def allB {α : Type} (p : α → Prop) (l : List α) : Prop := ((List.length l : Nat) : Int) ≤ MM ∧ ∀ e ∈ l, p e
def Bd : (t : Ty) → den t → Prop
  | .int _, _ => True
  | .bool, _ => True
  | .str, s => (ByteArray.size s : Int) ≤ MM
  | .un, _ => True
  | .pr a b, x => Bd a x.1 ∧ Bd b x.2
  | .sl t, l => allB (Bd t) l
  | .ref t, x => Bd t x
  | .cl _ t, x => Bd t x
section
variable {α β : Type} {f : α → Int → R1 Int} {g : β → Int → R1 Int} {M : Int} {W W' B B' : α → Prop} {W1 B1 : β → Prop}
end
def sch {O : Type} (hit : Nat → Option O) (fin : O) : Nat → Nat → O
  | 0, _ => fin
  | m + 1, i => match hit i with | some o => o | none => sch hit fin m (i + 1)
def foldN {A : Type} (f : Nat → A → A) : Nat → Nat → A → A
  | 0, _, a => a
  | m + 1, i, a => foldN f m (i + 1) (f i a)
end Go.Tw
