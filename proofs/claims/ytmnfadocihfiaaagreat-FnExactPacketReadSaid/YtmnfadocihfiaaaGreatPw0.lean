/- Plain facts on the mirrors of the functions are proved here. -/
import Derived.Test.YtmnfadocihfiaaaGreatPf0
set_option linter.all false
namespace Go.Tw
open Go Go.RowKit
def walk {α A O : Type} (f : Nat → α → A → O ⊕ A) (fin : A → O) : List α → Nat → A → O
  | [], _, a => fin a
  | e :: l, i, a => Sum.elim id (fun a' => walk f fin l (i + 1) a') (f i e a)
theorem walk_run {V O A α : Type} {step : (V → Option O) → V → Option O} {x : List α} (z : α) {st : Nat → A → V} {f : Nat → α → A → O ⊕ A} {fin : A → O} (I : Nat → A → Prop)
    (h1 : ∀ i a, i < x.length → I i a → ∀ rec, step rec (st i a) = Sum.elim some (fun a' => rec (st (i + 1) a')) (f i (x.getD i z) a))
    (hI : ∀ i a a', i < x.length → I i a → f i (x.getD i z) a = .inr a' → I (i + 1) a')
    (h2 : ∀ a, I x.length a → ∀ rec, step rec (st x.length a) = some (fin a)) :
    ∀ (m i k : Nat) (a : A), i + m = x.length → m < k → I i a → iter step k (st i a) = some (walk f fin (x.drop i) i a)
  | 0, i, k + 1, a, hi, _, hIa => by
    have : i = x.length := by omega
    subst this
    rw [iter_succ, h2 a hIa, List.drop_length]; rfl
  | m + 1, i, k + 1, a, hi, hk, hIa => by
    rw [iter_succ, h1 i a (by omega) hIa, drop_at x z i (by omega)]
    simp only [walk]
    cases hf : f i (x.getD i z) a with
    | inl o => rfl
    | inr a' => exact walk_run z I h1 hI h2 m (i + 1) k a' (by omega) (by omega) (hI i a a' (by omega) hIa hf)
theorem walk_run0 {V O A α : Type} {step : (V → Option O) → V → Option O} {x : List α} (z : α) {st : Nat → A → V} {f : Nat → α → A → O ⊕ A} {fin : A → O} (I : Nat → A → Prop)
    (h1 : ∀ i a, i < x.length → I i a → ∀ rec, step rec (st i a) = Sum.elim some (fun a' => rec (st (i + 1) a')) (f i (x.getD i z) a))
    (hI : ∀ i a a', i < x.length → I i a → f i (x.getD i z) a = .inr a' → I (i + 1) a')
    (h2 : ∀ a, I x.length a → ∀ rec, step rec (st x.length a) = some (fin a)) {k : Nat} (hk : x.length < k) {a : A} (h0 : I 0 a) : iter step k (st 0 a) = some (walk f fin x 0 a) := by
  have := walk_run z I h1 hI h2 x.length 0 k a (by omega) hk h0
  simpa using this
def thru {α A : Type} (g : Nat → α → A → A) : List α → Nat → A → A
  | [], _, a => a
  | e :: l, i, a => thru g l (i + 1) (g i e a)
theorem thru_run0 {V O A α : Type} {step : (V → Option O) → V → Option O} {x : List α} (z : α) {st : Nat → A → V} {g : Nat → α → A → A} {fin : A → O} (I : Nat → A → Prop)
    (h1 : ∀ i a, i < x.length → I i a → ∀ rec, step rec (st i a) = rec (st (i + 1) (g i (x.getD i z) a)))
    (hI : ∀ i a, i < x.length → I i a → I (i + 1) (g i (x.getD i z) a))
    (h2 : ∀ a, I x.length a → ∀ rec, step rec (st x.length a) = some (fin a)) {k : Nat} (hk : x.length < k) {a : A} (h0 : I 0 a) : iter step k (st 0 a) = some (fin (thru g x 0 a)) := by
  have := walk_run0 (O := O) (f := fun i e a => .inr (g i e a)) z I (fun i a hi hIa rec => h1 i a hi hIa rec) (fun i a a' hi hIa e => by cases e; exact hI i a hi hIa) h2 hk h0
  rw [this]
  congr 1
  have : ∀ (l : List α) (i : Nat) (a : A), walk (O := O) (fun i e a => .inr (g i e a)) fin l i a = fin (thru g l i a) := by
    intro l
    induction l with
    | nil => intro i a; rfl
    | cons e l ih => intro i a; simp only [walk, thru, Sum.elim_inr]; exact ih _ _
  exact this x 0 a
theorem thru_filter {α : Type} (p : α → Bool) : ∀ (l : List α) (i : Nat) (a : List α), thru (fun _ e a => bif p e then a ++ [e] else a) l i a = a ++ l.filter p
  | [], i, a => by simp [thru]
  | e :: l, i, a => by
    simp only [thru, List.filter_cons]
    rw [thru_filter p l]
    cases p e <;> simp
theorem thru_map {α β : Type} (p : α → Bool) (g : α → β) : ∀ (l : List α) (i : Nat) (a : List β), thru (fun _ e a => bif p e then a ++ [g e] else a) l i a = a ++ (l.filter p).map g
  | [], i, a => by simp [thru]
  | e :: l, i, a => by
    simp only [thru, List.filter_cons]
    rw [thru_map p g l]
    cases p e <;> simp
theorem thru_flat {α β : Type} (g : α → List β) : ∀ (l : List α) (i : Nat) (a : List β), thru (fun _ e a => a ++ g e) l i a = a ++ l.flatMap g
  | [], i, a => by simp [thru]
  | e :: l, i, a => by
    simp only [thru, List.flatMap_cons]
    rw [thru_flat g l]; simp
theorem thru_all {α β : Type} (g : α → β) : ∀ (l : List α) (i : Nat) (a : List β), thru (fun _ e a => a ++ [g e]) l i a = a ++ l.map g
  | [], i, a => by simp [thru]
  | e :: l, i, a => by
    simp only [thru, List.map_cons]
    rw [thru_all g l]; simp
def mpI (ids : List Int) : List (Int × Bool) := ids.map fun a => (a, true)
theorem mget_mpI (a : Int) : ∀ ids : List Int, mget (.int .i64) .bool (mpI ids) a = decide (a ∈ ids)
  | [] => by simp [mpI, mget, dflt]; rfl
  | b :: ids => by
    have ih := mget_mpI a ids
    have hk : eqK (.int .i64) a b = decide (a = b) := rfl
    simp only [mpI, List.map_cons, mget, hk] at ih ⊢
    by_cases h : a = b
    · simp [h]; rfl
    · simp [h, ih]; rfl
theorem mset_mpI (a : Int) : ∀ ids : List Int, a ∉ ids → mset (.int .i64) .bool (mpI ids) a true = mpI (ids ++ [a])
  | [], _ => rfl
  | b :: ids, h => by
    simp only [List.mem_cons, not_or] at h
    have ih := mset_mpI a ids h.2
    have hk : eqK (.int .i64) a b = decide (a = b) := rfl
    simp only [mpI, List.map_cons, mset, List.cons_append, hk] at ih ⊢
    simp [h.1, ih]; rfl
theorem inv_run {V O A : Type} {step : (V → Option O) → V → Option O} {n : Nat} {st : Nat → A → V} {fin : A → O} (I : Nat → A → Prop)
    (h1 : ∀ i a, i < n → I i a → ∃ a', I (i + 1) a' ∧ ∀ rec, step rec (st i a) = rec (st (i + 1) a'))
    (h2 : ∀ a, I n a → ∀ rec, step rec (st n a) = some (fin a)) : ∀ (m i k : Nat) (a : A), i + m = n → m < k → I i a → ∃ a', I n a' ∧ iter step k (st i a) = some (fin a')
  | 0, i, k + 1, a, hi, _, hIa => by
    have : i = n := by omega
    subst this
    exact ⟨a, hIa, by rw [iter_succ, h2 a hIa]⟩
  | m + 1, i, k + 1, a, hi, hk, hIa => by
    obtain ⟨a', q1, q2⟩ := h1 i a (by omega) hIa
    obtain ⟨a2, q3, q4⟩ := inv_run I h1 h2 m (i + 1) k a' (by omega) (by omega) q1
    exact ⟨a2, q3, by rw [iter_succ, q2]; exact q4⟩
theorem set_mid {α : Type} : ∀ (P : List α) (x e : α) (r : List α) (n : Nat), n = P.length → (P ++ x :: r).set n e = P ++ e :: r
  | [], x, e, r, n, h => by subst h; rfl
  | p :: P, x, e, r, n, h => by
    subst h
    simp only [List.cons_append, List.length_cons, List.set_cons_succ]
    rw [set_mid P x e r P.length rfl]
theorem thru_set {α β : Type} (F : α → β) : ∀ (l : List α) (i : Nat) (P r : List β), P.length = i → r.length = l.length → thru (fun i s acc => acc.set i (F s)) l i (P ++ r) = P ++ l.map F
  | [], i, P, r, h1, h2 => by
    have : r = [] := List.eq_nil_of_length_eq_zero h2
    simp [thru, this]
  | e :: l, i, P, r, h1, h2 => by
    cases r with
    | nil => simp at h2
    | cons x r =>
      simp only [thru]
      rw [set_mid P x (F e) r i h1.symm, show P ++ F e :: r = (P ++ [F e]) ++ r by simp, thru_set F l (i + 1) (P ++ [F e]) r (by simp [h1]) (by simpa using h2)]
      simp
theorem clr_take {α : Type} (d : α) : ∀ (k off m : Nat) (l : List α), m ≤ off → (clr d off k l).take m = l.take m
  | 0, off, m, l, h => rfl
  | k + 1, off, m, l, h => by
    simp only [clr]
    rw [clr_take d k (off + 1) m _ (by omega), List.take_set_of_le h]
theorem leN (a b : Int) : decide (a < b) = !decide (b ≤ a) := by
  by_cases h : a < b <;> by_cases h2 : b ≤ a <;> simp [h, h2] <;> omega
def anyN (p : Nat → Bool) : Nat → Nat → Bool
  | 0, _ => false
  | m + 1, i => p i || anyN p m (i + 1)
theorem anyN_iff (p : Nat → Bool) : ∀ m i, anyN p m i = true ↔ ∃ j, i ≤ j ∧ j < i + m ∧ p j = true
  | 0, i => by simp [anyN]; omega
  | m + 1, i => by
    simp only [anyN, Bool.or_eq_true, anyN_iff p m (i + 1)]
    constructor
    · rintro (h | ⟨j, h1, h2, h3⟩)
      · exact ⟨i, by omega, by omega, h⟩
      · exact ⟨j, by omega, by omega, h3⟩
    · rintro ⟨j, h1, h2, h3⟩
      by_cases hj : j = i
      · exact .inl (hj ▸ h3)
      · exact .inr ⟨j, by omega, by omega, h3⟩
theorem sch_bool {O : Type} {p : Nat → Bool} {o fin : O} : ∀ m i, sch (fun j => bif p j then some o else none) fin m i = bif anyN p m i then o else fin
  | 0, i => rfl
  | m + 1, i => by
    simp only [sch, anyN]
    cases p i with
    | true => rfl
    | false => simpa using sch_bool m (i + 1)
end Go.Tw
