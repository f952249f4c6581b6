/- Facts on mirrors. -/
import Derived.Test.YtmnfadocihfiaaaGreatPf0
set_option linter.all false
namespace Go.Tw
open Go Go.RowKit
def walk {α A O : Type} (f : Nat → α → A → O ⊕ A) (fin : A → O) : List α → Nat → A → O
  | [], _, a => fin a
  | e :: l, i, a => Sum.elim id (fun a' => walk f fin l (i + 1) a') (f i e a)
def thru {α A : Type} (g : Nat → α → A → A) : List α → Nat → A → A
  | [], _, a => a
  | e :: l, i, a => thru g l (i + 1) (g i e a)
def mpI (ids : List Int) : List (Int × Bool) := ids.map fun a => (a, true)
theorem inv_run {V O A : Type} {step : (V → Option O) → V → Option O} {n : Nat} {st : Nat → A → V} {fin : A → O} (I : Nat → A → Prop)
    (h1 : ∀ i a, i < n → I i a → ∃ a', I (i + 1) a' ∧ ∀ rec, step rec (st i a) = rec (st (i + 1) a'))
    (h2 : ∀ a, I n a → ∀ rec, step rec (st n a) = some (fin a)) : ∀ (m i k : Nat) (a : A), i + m = n → m < k → I i a → ∃ a', I n a' ∧ iter step k (st i a) = some (fin a')
  | 0, i, k + 1, a, hi, _, hIa => by
    have : i = n := by omega
    subst this
    exact ⟨a, hIa, by rw [iter_succ, h2 a hIa]⟩
  | m + 1, i, k + 1, a, hi, hk, hIa => by
    obtain ⟨a', q1, q2⟩ := h1 i a (by omega) hIa
    obtain ⟨a2, q3, q4⟩ := inv_run I h1 h2 m (i + 1) k a' (by omega) (by omega) q1
    exact ⟨a2, q3, by rw [iter_succ, q2]; exact q4⟩
def anyN (p : Nat → Bool) : Nat → Nat → Bool
  | 0, _ => false
  | m + 1, i => p i || anyN p m (i + 1)
end Go.Tw
