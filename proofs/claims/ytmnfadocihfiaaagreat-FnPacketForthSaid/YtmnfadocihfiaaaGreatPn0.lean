/- Facts on mirrors. -/
import Derived.Test.YtmnfadocihfiaaaGreatPw0
set_option linter.all false
namespace Go.Tw
open Go Go.RowKit
def putB (n : Int) : Nat → List Int
  | 0 => []
  | m + 1 => (n / ((256 ^ m : Nat) : Int)) % 256 :: putB n m
def beB (l : List Int) : Int := l.foldl (fun n b => n * 256 + b) 0
theorem putB_len (n : Int) : ∀ m, (putB n m).length = m
  | 0 => rfl
  | m + 1 => by simp [putB, putB_len n m]
theorem pow_pos' (m : Nat) : 0 < ((256 ^ m : Nat) : Int) := by
  have : 0 < 256 ^ m := Nat.pow_pos (by decide)
  omega
theorem putB_bytes (n : Int) : ∀ m, ∀ b ∈ putB n m, 0 ≤ b ∧ b ≤ 255
  | 0, b, h => by simp [putB] at h
  | m + 1, b, h => by
    simp only [putB, List.mem_cons] at h
    rcases h with rfl | h
    · omega
    · exact putB_bytes n m b h
theorem foldl_be : ∀ (l : List Int) (a : Int), l.foldl (fun n b => n * 256 + b) a = a * ((256 ^ l.length : Nat) : Int) + beB l
  | [], a => by simp [beB]
  | b :: l, a => by
    unfold beB
    simp only [List.foldl_cons, List.length_cons]
    rw [foldl_be l (a * 256 + b), foldl_be l (0 * 256 + b), Nat.pow_succ]
    have : (((256 ^ l.length * 256 : Nat)) : Int) = ((256 ^ l.length : Nat) : Int) * 256 := by simp
    rw [this]
    generalize ((256 ^ l.length : Nat) : Int) = p
    rw [Int.add_mul, Int.add_mul, Int.zero_mul, Int.zero_mul, Int.zero_add, Int.mul_assoc, Int.mul_comm 256 p, Int.add_assoc]
theorem beB_cons (b : Int) (l : List Int) : beB (b :: l) = b * ((256 ^ l.length : Nat) : Int) + beB l := by
  have := foldl_be l (0 * 256 + b)
  simpa [beB] using this
theorem beB_app : ∀ (a b : List Int), beB (a ++ b) = beB a * ((256 ^ b.length : Nat) : Int) + beB b
  | [], b => by simp [beB]
  | x :: a, b => by
    rw [List.cons_append, beB_cons, beB_cons, beB_app a b, List.length_append, Nat.pow_add]
    have : (((256 ^ a.length * 256 ^ b.length : Nat)) : Int) = ((256 ^ a.length : Nat) : Int) * ((256 ^ b.length : Nat) : Int) := by simp
    rw [this, Int.add_mul, Int.mul_assoc, Int.add_assoc]
theorem beB_rng : ∀ l : List Int, (∀ b ∈ l, 0 ≤ b ∧ b ≤ 255) → 0 ≤ beB l ∧ beB l < ((256 ^ l.length : Nat) : Int)
  | [], _ => by simp [beB]
  | b :: l, h => by
    obtain ⟨h1, h2⟩ := beB_rng l (fun x hx => h x (by simp [hx]))
    have hb := h b (by simp)
    have hp := pow_pos' l.length
    rw [beB_cons, List.length_cons, Nat.pow_succ]
    have e : (((256 ^ l.length * 256 : Nat)) : Int) = ((256 ^ l.length : Nat) : Int) * 256 := by simp
    rw [e]
    generalize ((256 ^ l.length : Nat) : Int) = p at h2 hp ⊢
    have h3 : 0 ≤ b * p := Int.mul_nonneg hb.1 (by omega)
    have h4 : b * p ≤ 255 * p := Int.mul_le_mul_of_nonneg_right hb.2 (by omega)
    omega
theorem put_beB : ∀ (l : List Int) , (∀ b ∈ l, 0 ≤ b ∧ b ≤ 255) → putB (beB l) l.length = l
  | [], _ => rfl
  | b :: l, h => by
    have hl := fun x hx => h x (List.mem_cons_of_mem _ hx)
    have ih := put_beB l hl
    obtain ⟨h1, h2⟩ := beB_rng l hl
    have hb := h b (by simp)
    have hp := pow_pos' l.length
    rw [List.length_cons, putB, beB_cons]
    have hq : ∀ m ≤ l.length, putB (b * ((256 ^ l.length : Nat) : Int) + beB l) m = putB (beB l) m := by
      intro m
      induction m with
      | zero => intro _; rfl
      | succ m ihm =>
        intro hm
        simp only [putB]
        rw [ihm (by omega)]
        congr 1
        have e : ((256 ^ l.length : Nat) : Int) = (((256 ^ (l.length - m - 1) : Nat) : Int) * 256) * ((256 ^ m : Nat) : Int) := by
          have : 256 ^ l.length = 256 ^ (l.length - m - 1) * 256 * 256 ^ m := by
            rw [← Nat.pow_succ, ← Nat.pow_add]; congr 1; omega
          rw [this]; simp
        have hpm := pow_pos' m
        rw [e, ← Int.mul_assoc, ← Int.mul_assoc, Int.add_comm, Int.add_mul_ediv_right _ _ (by omega)]
        omega
    rw [hq _ (Nat.le_refl _), ih]
    congr 1
    rw [Int.add_comm, Int.add_mul_ediv_right _ _ (by omega), Int.ediv_eq_zero_of_lt h1 h2]
    omega
end Go.Tw
