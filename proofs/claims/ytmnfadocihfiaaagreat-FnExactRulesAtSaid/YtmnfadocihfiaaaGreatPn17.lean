/- Plain facts on the mirrors of the functions are proved here. -/
import Derived.Test.YtmnfadocihfiaaaGreatPn16
set_option linter.all false
set_option maxRecDepth 100000
set_option maxHeartbeats 4000000
namespace Go.Tw
open Go Sem
def badR (l : List D_Rule) (i : Nat) : Bool := !ruleB (l.getD i z_Rule) || (decide (0 < i) && decide ((l.getD i z_Rule).1 ≤ (l.getD (i - 1) z_Rule).1))
def rsB (l : List D_Rule) : Bool := decide (l.length ≤ 32) && !anyN (badR l) l.length 0
theorem rsS (k : Nat) (hk : MM < k) (l : List D_Rule) (hl : l.length ≤ 1000) : spec_RulesOk k l = some ((rsB l, ()), ()) := by
  have hM : MM = 1048576 := rfl
  unfold spec_RulesOk rsB
  by_cases h32 : l.length ≤ 32
  case neg => rw [bif_t (decide_eq_true (by omega)), decide_eq_false h32]; rfl
  rw [bif_f (decide_eq_false (by omega)), decide_eq_true h32]
  have run := search_run (step := spec_RulesOk_s4 k) (st := fun i => ((), l, (i : Int), ())) (n := l.length) (hit := fun i => bif badR l i then some (Sum.inl ((), false, ())) else none) (fin := Sum.inr ((), ())) (fun i hi rec => by
      unfold spec_RulesOk_s4 badR
      dsimp only [Int.toNat_natCast]
      rw [bif_t (decide_eq_true (by omega)), bif_t (Bool.and_eq_true_iff.2 ⟨decide_eq_true (by omega), decide_eq_true (by omega)⟩), bif_t (decide_eq_true (by omega)), ruleS k hk, Option.bind_some, w64 (n := (i : Int) + 1) (by omega)]
      dsimp only
      cases ruleB (l.getD i z_Rule)
      · rfl
      · by_cases h0 : 0 < i
        · have e1 : IntKind.wrap .i64 ((i : Int) - 1) = ((i - 1 : Nat) : Int) := by rw [w64 (by omega)]; omega
          rw [e1]
          simp only [Int.toNat_natCast, Bool.not_true, Bool.not_false, cond_true, Bool.false_or]
          rw [bif_t (decide_eq_true (by omega)), bif_t (Bool.and_eq_true_iff.2 ⟨decide_eq_true (by omega), decide_eq_true (by omega)⟩), bif_t (decide_eq_true (by omega)), bif_t (Bool.and_eq_true_iff.2 ⟨decide_eq_true (by omega), decide_eq_true (by omega)⟩), bif_t (decide_eq_true (by omega)), decide_eq_true h0]
          cases decide ((l.getD i z_Rule).1 ≤ (l.getD (i - 1) z_Rule).1) <;> rfl
        · rw [bif_t (by rfl), bif_f (decide_eq_false (by omega)), decide_eq_false h0]
          rfl) (fun rec => by
      unfold spec_RulesOk_s4
      exact bif_f (decide_eq_false (by dsimp only; omega))) l.length 0 k (by omega) (by omega)
  rw [show iter (spec_RulesOk_s4 k) k ((), l, (0 : Int), ()) = _ from run, sch_bool]
  cases anyN (badR l) l.length 0 <;> rfl
theorem rsI (k : Nat) (hk : MM < k) (l : List D_Rule) (hl : l.length ≤ 1000) : impl_RulesOk k l = some ((rsB l, ()), ()) := by
  have hM : MM = 1048576 := rfl
  unfold impl_RulesOk rsB
  have run := search_run (step := impl_RulesOk_s2 k) (st := fun i => ((), l, l, ((l.length : Nat) : Int), (i : Int), ())) (n := l.length) (hit := fun i => bif badR l i then some (Sum.inl ((), false, ())) else none) (fin := Sum.inr ((), l, ())) (fun i hi rec => by
      unfold impl_RulesOk_s2 badR
      dsimp only [Int.toNat_natCast]
      rw [bif_t (decide_eq_true (by omega)), bif_t (Bool.and_eq_true_iff.2 ⟨decide_eq_true (by omega), decide_eq_true (by omega)⟩), bif_t (decide_eq_true (by omega)), ruleI k hk, Option.bind_some, w64 (n := (i : Int) + 1) (by omega)]
      dsimp only
      cases ruleB (l.getD i z_Rule)
      · rfl
      · by_cases h0 : 0 < i
        · have e1 : IntKind.wrap .i64 ((i : Int) - 1) = ((i - 1 : Nat) : Int) := by rw [w64 (by omega)]; omega
          rw [e1]
          simp only [Int.toNat_natCast, Bool.not_true, Bool.not_false, cond_true, Bool.false_or]
          rw [bif_t (decide_eq_true (by omega)), bif_t (Bool.and_eq_true_iff.2 ⟨decide_eq_true (by omega), decide_eq_true (by omega)⟩), bif_t (decide_eq_true (by omega)), decide_eq_true h0]
          cases decide ((l.getD i z_Rule).1 ≤ (l.getD (i - 1) z_Rule).1) <;> rfl
        · rw [bif_t (by rfl), bif_f (decide_eq_false (by omega)), decide_eq_false h0]
          rfl) (fun rec => by
      unfold impl_RulesOk_s2
      exact bif_f (decide_eq_false (by dsimp only; omega))) l.length 0 k (by omega) (by omega)
  rw [show iter (impl_RulesOk_s2 k) k ((), l, l, (((List.length l) : Nat) : Int), (0 : Int), ()) = _ from run, sch_bool]
  have e : decide (((l.length : Nat) : Int) ≤ 32) = decide (l.length ≤ 32) := by
    by_cases h : l.length ≤ 32
    · rw [decide_eq_true h, decide_eq_true (by omega)]
    · rw [decide_eq_false h, decide_eq_false (by omega)]
  cases anyN (badR l) l.length 0
  · show some ((decide (((l.length : Nat) : Int) ≤ 32), ()), ()) = _
    rw [e]; cases decide (l.length ≤ 32) <;> rfl
  · cases decide (l.length ≤ 32) <;> rfl
theorem rs_sort {l : List D_Rule} (h : rsB l = true) : l.length ≤ 32 ∧ ∀ i j, i < j → j < l.length → (l.getD i z_Rule).1 < (l.getD j z_Rule).1 := by
  unfold rsB at h
  simp only [Bool.and_eq_true_iff, decide_eq_true_eq, Bool.not_eq_true'] at h
  obtain ⟨h1, h2⟩ := h
  have adj : ∀ i, i < l.length → badR l i = false := by
    intro i hi
    cases g : badR l i
    · rfl
    · have := (anyN_iff (badR l) l.length 0).2 ⟨i, by omega, by omega, g⟩
      rw [h2] at this; cases this
  refine ⟨h1, fun i j hij => ?_⟩
  induction j with
  | zero => omega
  | succ j ih =>
    intro hj
    have a := adj (j + 1) hj
    unfold badR at a
    simp only [Bool.or_eq_false_iff] at a
    have a2 := a.2
    rw [decide_eq_true (show 0 < j + 1 by omega), Bool.true_and] at a2
    have a3 := of_decide_eq_false a2
    rw [show j + 1 - 1 = j from rfl] at a3
    rcases Nat.lt_or_ge i j with g | g
    · have := ih g (by omega); omega
    · have : i = j := by omega
      subst this; omega
end Go.Tw
