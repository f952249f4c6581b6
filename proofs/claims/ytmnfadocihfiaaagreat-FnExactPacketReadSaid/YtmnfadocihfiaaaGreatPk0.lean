/- Plain facts on the mirrors of the functions are proved here. -/
import Derived.Test.YtmnfadocihfiaaaGreatPf0
set_option linter.all false
namespace Go.Tw
open Go Go.RowKit
theorem sch_none {O : Type} {fin : O} : ∀ (m i : Nat), sch (fun _ => (none : Option O)) fin m i = fin
  | 0, _ => rfl
  | m + 1, i => sch_none m (i + 1)
theorem set_getD {α : Type} : ∀ (l : List α) (i : Nat) (e z : α), i < l.length → (l.set i e).getD i z = e
  | [], i, e, z, h => by simp at h
  | x :: l, 0, e, z, h => rfl
  | x :: l, i + 1, e, z, h => by
    simp only [List.set_cons_succ, List.getD_cons_succ]
    exact set_getD l i e z (by simpa using h)
def markF {α : Type} (E : Int → α) (c : Nat) : Nat → Int → List α
  | 0, _ => []
  | n + 1, m => E m :: markF E c n (m + (c : Int))
theorem markF_len {α : Type} (E : Int → α) (c : Nat) : ∀ n m, (markF E c n m).length = n
  | 0, _ => rfl
  | n + 1, m => by simp [markF, markF_len E c n]
theorem markF_get {α : Type} (E : Int → α) (c : Nat) (z : α) : ∀ n m i, i < n → (markF E c n m).getD i z = E (m + ((c * i : Nat) : Int))
  | 0, _, _, h => by omega
  | n + 1, m, 0, _ => by simp [markF]
  | n + 1, m, i + 1, h => by
    simp only [markF, List.getD_cons_succ]
    rw [markF_get E c z n _ i (by omega)]
    congr 1
    rw [Nat.mul_succ]; omega
theorem markF_snoc {α : Type} (E : Int → α) (c : Nat) : ∀ n m, markF E c (n + 1) m = markF E c n m ++ [E (m + ((c * n : Nat) : Int))]
  | 0, m => by simp [markF]
  | n + 1, m => by
    rw [markF, markF_snoc E c n]
    simp only [markF, List.cons_append, List.cons.injEq, true_and]
    have : m + (c : Int) + ((c * n : Nat) : Int) = m + ((c * (n + 1) : Nat) : Int) := by rw [Nat.mul_succ]; omega
    rw [this]
theorem set_midK {α : Type} : ∀ (P : List α) (x e : α) (r : List α) (n : Nat), n = P.length → (P ++ x :: r).set n e = P ++ e :: r
  | [], x, e, r, n, h => by subst h; rfl
  | p :: P, x, e, r, n, h => by
    subst h
    simp only [List.cons_append, List.length_cons, List.set_cons_succ]
    rw [set_midK P x e r P.length rfl]
section
variable {α : Type} {E : Int → α} {c : Nat} {z : α}
theorem mark_run {step : (((List α × Unit) × (Unit × (Int × (Int × Unit)))) → Option ((List α × Unit) × (Int × Unit))) → ((List α × Unit) × (Unit × (Int × (Int × Unit)))) → Option ((List α × Unit) × (Int × Unit))} (z : α)
    (h1 : ∀ (L : List α) (m : Int) (i : Nat) rec, i < L.length → L.length ≤ 1048576 → 0 ≤ m → m ≤ 1099511627776 → step rec ((L, ()), (), m, (i : Int), ()) = rec ((L.set i (E m), ()), (), m + (c : Int), ((i + 1 : Nat) : Int), ()))
    (h2 : ∀ (L : List α) (m : Int) rec, step rec ((L, ()), (), m, ((L.length : Nat) : Int), ()) = some ((L, ()), m, ()))
    {k : Nat} (hk : MM < k) {L : List α} (hL : L.length ≤ 1048576) {m : Int} (h0 : 0 ≤ m) (hm : m + ((c * L.length : Nat) : Int) ≤ 1099511627776) :
    iter step k ((L, ()), (), m, (0 : Int), ()) = some ((markF E c L.length m, ()), m + ((c * L.length : Nat) : Int), ()) := by
  have hM : MM = 1048576 := rfl
  have run := search_run (step := step) (st := fun i => ((markF E c i m ++ L.drop i, ()), (), m + ((c * i : Nat) : Int), (i : Int), ())) (n := L.length) (hit := fun i => none) (fin := ((markF E c L.length m, ()), m + ((c * L.length : Nat) : Int), ())) (fun i hi rec => by
      have hlen : (markF E c i m ++ L.drop i).length = L.length := by simp [markF_len]; omega
      have hci : ((c * i : Nat) : Int) ≤ ((c * L.length : Nat) : Int) := by
        have := Nat.mul_le_mul_left c (Nat.le_of_lt hi)
        omega
      have hs := h1 (markF E c i m ++ L.drop i) (m + ((c * i : Nat) : Int)) i rec (by omega) (by omega) (by omega) (by omega)
      rw [hs]
      show rec _ = rec _
      congr 2
      · rw [drop_at L z i hi, set_midK _ _ _ _ _ (markF_len E c i m).symm, markF_snoc]; simp
      · have : m + ((c * i : Nat) : Int) + (c : Int) = m + ((c * (i + 1) : Nat) : Int) := by rw [Nat.mul_succ]; omega
        rw [this]) (fun rec => by
      have hs := h2 (markF E c L.length m) (m + ((c * L.length : Nat) : Int)) rec
      rw [markF_len] at hs
      simp only [List.drop_length, List.append_nil]
      exact hs) L.length 0 k (by omega) (by omega)
  rw [sch_none] at run
  simpa [markF] using run
theorem held_run {step : ((Unit × (List α × (Int × (Int × Unit)))) → Option ((Unit × (Int × Unit)) ⊕ (Unit × (Int × Unit)))) → (Unit × (List α × (Int × (Int × Unit)))) → Option ((Unit × (Int × Unit)) ⊕ (Unit × (Int × Unit)))} (z : α)
    (h1 : ∀ (L : List α) (m : Int) (i : Nat) rec, i < L.length → L.length ≤ 1048576 → 0 ≤ m → m ≤ 1099511627776 → L.getD i z = E m → step rec ((), L, m, (i : Int), ()) = rec ((), L, m + (c : Int), ((i + 1 : Nat) : Int), ()))
    (h2 : ∀ (L : List α) (m : Int) rec, step rec ((), L, m, ((L.length : Nat) : Int), ()) = some (Sum.inr ((), m, ())))
    {k : Nat} (hk : MM < k) {n : Nat} (hn : n ≤ 1048576) {m : Int} (h0 : 0 ≤ m) (hm : m + ((c * n : Nat) : Int) ≤ 1099511627776) :
    iter step k ((), markF E c n m, m, (0 : Int), ()) = some (Sum.inr ((), m + ((c * n : Nat) : Int), ())) := by
  have hM : MM = 1048576 := rfl
  have hl := markF_len E c n m
  have run := search_run (step := step) (st := fun i => ((), markF E c n m, m + ((c * i : Nat) : Int), (i : Int), ())) (n := n) (hit := fun i => none) (fin := Sum.inr ((), m + ((c * n : Nat) : Int), ())) (fun i hi rec => by
      have hci : ((c * i : Nat) : Int) ≤ ((c * n : Nat) : Int) := by
        have := Nat.mul_le_mul_left c (Nat.le_of_lt hi)
        omega
      rw [h1 (markF E c n m) (m + ((c * i : Nat) : Int)) i rec (by omega) (by omega) (by omega) (by omega) (markF_get E c z n m i hi)]
      have : m + ((c * i : Nat) : Int) + (c : Int) = m + ((c * (i + 1) : Nat) : Int) := by rw [Nat.mul_succ]; omega
      rw [this]; rfl) (fun rec => by
      have hs := h2 (markF E c n m) (m + ((c * n : Nat) : Int)) rec
      rw [hl] at hs
      exact hs) n 0 k (by omega) (by omega)
  rw [sch_none] at run
  simpa using run
end
end Go.Tw
