/- Plain facts on the mirrors of the functions are proved here. -/
import Derived.Test.YtmnfadocihfiaaaGreatPn16
set_option linter.all false
namespace Go.Tw
open Go Go.RowKit
abbrev M0 : Int := 1048576
def zV (v : D_Vec) : Bool := decide (v.1 = 0) && (decide (v.2.1 = 0) && (decide (v.2.2.1 = 0) && true))
def evOkB (e : D_Event) : Bool :=
  if e.1 = 1 then decide (e.2.1 = 0) && decide ((e.2.2.1.length : Int) ≤ 2000)
  else if e.1 = 3 then decide (e.2.1 = 0) && (decide ((e.2.2.1.length : Int) ≤ 2000) && zV e.2.2.2.1)
  else if e.1 = 2 then decide (1 ≤ e.2.1) && (decide (e.2.1 ≤ 4000) && (decide ((e.2.2.1.length : Int) = 0) && zV e.2.2.2.1))
  else if e.1 = 4 then decide (e.2.1 = 0) && (decide ((e.2.2.1.length : Int) = 0) && zV e.2.2.2.1)
  else false
theorem eventOk_eq (e : D_Event) : impl_eventOk e = some ((evOkB e, ()), ()) := by
  obtain ⟨c, a, l, ⟨v1, v2, v3, _⟩, _⟩ := e
  unfold impl_eventOk impl_within evOkB zV
  simp only
  generalize ((l.length : Nat) : Int) = n
  by_cases h1 : c = 1 <;> by_cases h2 : c = 2 <;> by_cases h3 : c = 3 <;> by_cases h4 : c = 4 <;> first | omega | skip
  all_goals by_cases h5 : a = 0 <;> by_cases h6 : n ≤ 2000 <;> by_cases h7 : 1 ≤ a <;> by_cases h8 : a ≤ 4000 <;> by_cases h9 : n = 0 <;> first | omega | skip
  all_goals simp [h1, h2, h3, h4, h5, h6, h7, h8, h9]
theorem evOk_at {e : D_Event} (h : evOkB e = true) : 0 ≤ e.2.1 ∧ e.2.1 ≤ 4000 := by
  unfold evOkB at h
  repeat' split at h
  all_goals simp at h <;> omega
def allOk (x : List D_Event) : Bool := x.all evOkB
def ticks (x : List D_Event) : Int := (x.map fun e => e.2.1).sum
theorem ticks_cons (e : D_Event) (x : List D_Event) : ticks (e :: x) = e.2.1 + ticks x := by simp [ticks]
theorem impl_run (x : List D_Event) (hl : (x.length : Int) ≤ M0) : ∀ (n i k : Nat) (m : Int), i + n = x.length → n < k → 0 ≤ m → m ≤ 4000 * i →
    iter impl_EventsOk_s3 k ((), x, m, x, (x.length : Int), (i : Int), ()) = some (if allOk (x.drop i) then Sum.inr ((), x, m + ticks (x.drop i), ()) else Sum.inl ((), false, ()))
  | 0, i, k + 1, m, hi, _, h0, hM => by
    rw [iter_succ]; unfold impl_EventsOk_s3
    rw [bif_f (by simp; omega), List.drop_of_length_le (by omega)]
    simp [allOk, ticks]
  | n + 1, i, k + 1, m, hi, hk, h0, hM => by
    have hlt : i < x.length := by omega
    have step : ∀ rec, impl_EventsOk_s3 rec ((), x, m, x, (x.length : Int), (i : Int), ()) = bif !evOkB (x.getD i z_Event) then some (Sum.inl ((), false, ())) else rec ((), x, IntKind.wrap .i64 (m + (x.getD i z_Event).2.1), x, (x.length : Int), IntKind.wrap .i64 ((i : Int) + 1), ()) := by
      intro rec
      unfold impl_EventsOk_s3
      rw [bif_t (by simp; omega), bif_t (by simp; omega), bif_t (by simp; omega)]
      simp only [Int.toNat_natCast, eventOk_eq, Option.bind_some]
    rw [iter_succ, step, drop_at x z_Event i hlt]
    obtain ⟨e, he⟩ : ∃ e, e = x.getD i z_Event := ⟨_, rfl⟩
    rw [← he]
    cases hb : evOkB e with
    | false => simp [allOk, hb]
    | true =>
      have := evOk_at hb
      have hM' : M0 = 1048576 := rfl
      rw [bif_f (by simp), w64 (by omega), w64 (by omega)]
      have := impl_run x hl n (i + 1) k (m + e.2.1) (by omega) (by omega) (by omega) (by omega)
      simp only [allOk, List.all_cons, hb, Bool.true_and, ticks_cons] at this ⊢
      rw [← Int.add_assoc]
      exact this
theorem ticks_nn : ∀ (x : List D_Event), allOk x = true → 0 ≤ ticks x
  | [], _ => by simp [ticks]
  | e :: x, h => by
    simp only [allOk, List.all_cons, Bool.and_eq_true] at h
    have := ticks_nn x h.2
    have := evOk_at h.1
    rw [ticks_cons]; omega
def evsOk (x : List D_Event) : Bool := decide ((x.length : Int) ≤ 200) && (allOk x && decide (ticks x ≤ 4000))
theorem impl_EventsOk_eq (k : Nat) (hk : M0 < k) (x : List D_Event) (hl : (x.length : Int) ≤ M0) : impl_EventsOk k x = some ((evsOk x, ()), ()) := by
  unfold impl_EventsOk
  rw [show iter impl_EventsOk_s3 k ((), x, (0 : Int), x, ((x.length : Nat) : Int), (0 : Int), ()) = _ from impl_run x hl x.length 0 k 0 (by omega) (by omega) (by omega) (by omega)]
  simp only [List.drop_zero, Option.bind_some]
  cases h : allOk x with
  | false => simp [evsOk, h]
  | true =>
    simp only [↓reduceIte, Sum.elim_inr, evsOk, h, Bool.true_and, Int.zero_add]
    by_cases h2 : (x.length : Int) ≤ 200 <;> simp [h2]
theorem spec_run (x : List D_Event) (hl : (x.length : Int) ≤ M0) : ∀ (n i k : Nat) (m : Int), i + n = x.length → n < k → 0 ≤ m → m ≤ 4000 →
    iter spec_EventsOk_s5 k ((), x, m, (i : Int), ()) = some (if allOk (x.drop i) && decide (ticks (x.drop i) ≤ m) then Sum.inr ((), ()) else Sum.inl ((), false, ()))
  | 0, i, k + 1, m, hi, _, h0, hM => by
    rw [iter_succ]; unfold spec_EventsOk_s5
    rw [bif_f (by simp; omega), List.drop_of_length_le (by omega)]
    simp [allOk, ticks, h0]
  | n + 1, i, k + 1, m, hi, hk, h0, hM => by
    have hlt : i < x.length := by omega
    have step0 : ∀ rec, spec_EventsOk_s5 rec ((), x, m, (i : Int), ()) = bif evOkB (x.getD (i : Int).toNat z_Event) && decide ((x.getD (i : Int).toNat z_Event).2.1 ≤ m) then rec ((), x, IntKind.wrap .i64 (m - (x.getD (i : Int).toNat z_Event).2.1), IntKind.wrap .i64 ((i : Int) + 1), ()) else some (Sum.inl ((), false, ())) := by
      intro rec
      unfold spec_EventsOk_s5
      rw [bif_t (by simp; omega), bif_t (by simp; omega), bif_t (by simp; omega)]
      obtain ⟨e, he⟩ : ∃ e, e = x.getD (i : Int).toNat z_Event := ⟨_, rfl⟩
      rw [← he]
      obtain ⟨c, a, l, ⟨v1, v2, v3, _⟩, _⟩ := e
      unfold evOkB zV
      simp only
      have hn : 0 ≤ ((l.length : Nat) : Int) := by omega
      clear he
      revert hn
      generalize ((l.length : Nat) : Int) = n
      intro hn
      generalize rec ((), x, IntKind.wrap .i64 (m - a), IntKind.wrap .i64 ((i : Int) + 1), ()) = R
      by_cases h1 : c = 1 <;> by_cases h2 : c = 2 <;> by_cases h3 : c = 3 <;> by_cases h4 : c = 4 <;> by_cases h0 : c < 1 <;> by_cases h00 : 4 < c <;> first | omega | skip
      all_goals by_cases h5 : a = 0 <;> by_cases h6 : n ≤ 2000 <;> by_cases h7 : 1 ≤ a <;> by_cases h8 : a ≤ m <;> by_cases h9 : n = 0 <;> first | omega | skip
      all_goals try (have h10 : 2000 < n := by omega)
      all_goals try (have h10 : ¬ 2000 < n := by omega)
      all_goals try (have h11 : a < 1 := by omega)
      all_goals try (have h11 : ¬ a < 1 := by omega)
      all_goals try (have h12 : m < a := by omega)
      all_goals try (have h12 : ¬ m < a := by omega)
      all_goals try (have h13 : 0 < n := by omega)
      all_goals try (have h13 : ¬ 0 < n := by omega)
      all_goals try (have h14 : a ≤ 4000 := by omega)
      all_goals simp [h1, h2, h3, h4, h5, h6, h7, h8, h9, h10, h11, h12, h13, h0, h00]
      all_goals (by_cases v1 = 0 <;> by_cases v2 = 0 <;> by_cases v3 = 0 <;> simp [*])
    have step : ∀ rec, spec_EventsOk_s5 rec ((), x, m, (i : Int), ()) = bif evOkB (x.getD i z_Event) && decide ((x.getD i z_Event).2.1 ≤ m) then rec ((), x, IntKind.wrap .i64 (m - (x.getD i z_Event).2.1), IntKind.wrap .i64 ((i : Int) + 1), ()) else some (Sum.inl ((), false, ())) := step0
    rw [iter_succ, step, drop_at x z_Event i hlt]
    obtain ⟨e, he⟩ : ∃ e, e = x.getD i z_Event := ⟨_, rfl⟩
    rw [← he]
    simp only [allOk, List.all_cons, ticks_cons]
    cases hb : evOkB e with
    | false => simp
    | true =>
      have := evOk_at hb
      have hM' : M0 = 1048576 := rfl
      by_cases hm : e.2.1 ≤ m
      · rw [bif_t (by simp [hm]), w64 (by omega), w64 (by omega)]
        have := spec_run x hl n (i + 1) k (m - e.2.1) (by omega) (by omega) (by omega) (by omega)
        rw [show ((i : Int) + 1) = ((i + 1 : Nat) : Int) by omega, this]
        simp only [Bool.true_and, allOk]
        congr 2
        · simp; intro _; omega
      · rw [bif_f (by simp [hm])]
        rw [if_neg]
        simp only [Bool.true_and, Bool.and_eq_true, decide_eq_true_eq, not_and]
        intro ha
        have := ticks_nn (x.drop (i + 1)) ha
        omega
theorem spec_EventsOk_eq (k : Nat) (hk : M0 < k) (x : List D_Event) (hl : (x.length : Int) ≤ M0) : spec_EventsOk k x = some ((evsOk x, ()), ()) := by
  unfold spec_EventsOk
  by_cases h : (200 : Int) < (x.length : Int)
  · rw [bif_t (by simpa using h)]
    have : ¬ (x.length : Int) ≤ 200 := by omega
    simp only [evsOk, this, decide_false, Bool.false_and]
  · rw [bif_f (by simpa using h), show iter spec_EventsOk_s5 k ((), x, (4000 : Int), (0 : Int), ()) = _ from spec_run x hl x.length 0 k 4000 (by omega) (by omega) (by omega) (by omega)]
    simp only [List.drop_zero, Option.bind_some]
    have h2 : (x.length : Int) ≤ 200 := by omega
    cases h3 : (allOk x && decide (ticks x ≤ 4000)) <;> simp only [evsOk, h2, h3, decide_true, Bool.true_and] <;> simp
end Go.Tw
