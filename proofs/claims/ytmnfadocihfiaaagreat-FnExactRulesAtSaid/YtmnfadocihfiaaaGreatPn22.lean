/- Plain facts on the mirrors of the functions are proved here. -/
import Derived.Test.YtmnfadocihfiaaaGreatPn21
import Derived.Test.YtmnfadocihfiaaaGreatPk0
set_option linter.all false
set_option maxRecDepth 100000
set_option maxHeartbeats 4000000
namespace Go.Tw
open Go Sem
theorem we1 {m : Int} (h0 : 0 ≤ m) (h1 : m ≤ 1099511627776) : IntKind.wrap .i64 (m + 1) = m + 1 := (w64 (n := m + 1) ⟨by omega, by omega⟩).trans (by omega)
theorem we2 {m : Int} (h0 : 0 ≤ m) (h1 : m ≤ 1099511627776) : IntKind.wrap .i64 (m + 1 + 1) = m + 2 := (w64 (n := m + 1 + 1) ⟨by omega, by omega⟩).trans (by omega)
theorem we3 {m : Int} (h0 : 0 ≤ m) (h1 : m ≤ 1099511627776) : IntKind.wrap .i64 (m + 2 + 1) = m + 3 := (w64 (n := m + 2 + 1) ⟨by omega, by omega⟩).trans (by omega)
theorem we4 {m : Int} (h0 : 0 ≤ m) (h1 : m ≤ 1099511627776) : IntKind.wrap .i64 (m + 3 + 1) = m + 4 := (w64 (n := m + 3 + 1) ⟨by omega, by omega⟩).trans (by omega)
theorem we5 {m : Int} (h0 : 0 ≤ m) (h1 : m ≤ 1099511627776) : IntKind.wrap .i64 (m + 4 + 1) = m + 5 := (w64 (n := m + 4 + 1) ⟨by omega, by omega⟩).trans (by omega)
theorem we6 {m : Int} (h0 : 0 ≤ m) (h1 : m ≤ 1099511627776) : IntKind.wrap .i64 (m + 5 + 1) = m + 6 := (w64 (n := m + 5 + 1) ⟨by omega, by omega⟩).trans (by omega)
theorem we7 {m : Int} (h0 : 0 ≤ m) (h1 : m ≤ 1099511627776) : IntKind.wrap .i64 (m + 6 + 1) = m + 7 := (w64 (n := m + 6 + 1) ⟨by omega, by omega⟩).trans (by omega)
theorem we8 {m : Int} (h0 : 0 ≤ m) (h1 : m ≤ 1099511627776) : IntKind.wrap .i64 (m + 7 + 1) = m + 8 := (w64 (n := m + 7 + 1) ⟨by omega, by omega⟩).trans (by omega)
theorem we9 {m : Int} (h0 : 0 ≤ m) (h1 : m ≤ 1099511627776) : IntKind.wrap .i64 (m + 8 + 1) = m + 9 := (w64 (n := m + 8 + 1) ⟨by omega, by omega⟩).trans (by omega)
theorem we10 {m : Int} (h0 : 0 ≤ m) (h1 : m ≤ 1099511627776) : IntKind.wrap .i64 (m + 9 + 1) = m + 10 := (w64 (n := m + 9 + 1) ⟨by omega, by omega⟩).trans (by omega)
theorem we11 {m : Int} (h0 : 0 ≤ m) (h1 : m ≤ 1099511627776) : IntKind.wrap .i64 (m + 10 + 1) = m + 11 := (w64 (n := m + 10 + 1) ⟨by omega, by omega⟩).trans (by omega)
theorem we12 {m : Int} (h0 : 0 ≤ m) (h1 : m ≤ 1099511627776) : IntKind.wrap .i64 (m + 11 + 1) = m + 12 := (w64 (n := m + 11 + 1) ⟨by omega, by omega⟩).trans (by omega)
theorem we13 {m : Int} (h0 : 0 ≤ m) (h1 : m ≤ 1099511627776) : IntKind.wrap .i64 (m + 12 + 1) = m + 13 := (w64 (n := m + 12 + 1) ⟨by omega, by omega⟩).trans (by omega)
theorem we14 {m : Int} (h0 : 0 ≤ m) (h1 : m ≤ 1099511627776) : IntKind.wrap .i64 (m + 13 + 1) = m + 14 := (w64 (n := m + 13 + 1) ⟨by omega, by omega⟩).trans (by omega)
theorem we15 {m : Int} (h0 : 0 ≤ m) (h1 : m ≤ 1099511627776) : IntKind.wrap .i64 (m + 14 + 1) = m + 15 := (w64 (n := m + 14 + 1) ⟨by omega, by omega⟩).trans (by omega)
theorem we16 {m : Int} (h0 : 0 ≤ m) (h1 : m ≤ 1099511627776) : IntKind.wrap .i64 (m + 15 + 1) = m + 16 := (w64 (n := m + 15 + 1) ⟨by omega, by omega⟩).trans (by omega)
theorem we17 {m : Int} (h0 : 0 ≤ m) (h1 : m ≤ 1099511627776) : IntKind.wrap .i64 (m + 16 + 1) = m + 17 := (w64 (n := m + 16 + 1) ⟨by omega, by omega⟩).trans (by omega)
theorem we18 {m : Int} (h0 : 0 ≤ m) (h1 : m ≤ 1099511627776) : IntKind.wrap .i64 (m + 17 + 1) = m + 18 := (w64 (n := m + 17 + 1) ⟨by omega, by omega⟩).trans (by omega)
theorem we19 {m : Int} (h0 : 0 ≤ m) (h1 : m ≤ 1099511627776) : IntKind.wrap .i64 (m + 18 + 1) = m + 19 := (w64 (n := m + 18 + 1) ⟨by omega, by omega⟩).trans (by omega)
theorem we20 {m : Int} (h0 : 0 ≤ m) (h1 : m ≤ 1099511627776) : IntKind.wrap .i64 (m + 19 + 1) = m + 20 := (w64 (n := m + 19 + 1) ⟨by omega, by omega⟩).trans (by omega)
theorem we21 {m : Int} (h0 : 0 ≤ m) (h1 : m ≤ 1099511627776) : IntKind.wrap .i64 (m + 20 + 1) = m + 21 := (w64 (n := m + 20 + 1) ⟨by omega, by omega⟩).trans (by omega)
def markR (m : Int) : D_Rule := (m, ((m + 1, m + 2, m + 3, m + 4, m + 5, ()), m + 6, ()), ((m + 7, m + 8, m + 9, m + 10, m + 11, ()), m + 12, ()), m + 13, m + 14, m + 15, m + 16, m + 17, m + 18, m + 19, m + 20, ())
theorem markRule_eq (k : Nat) (hk : MM < k) (L : List D_Rule) (hL : L.length ≤ 1048576) (m : Int) (h0 : 0 ≤ m) (hm : m + ((21 * L.length : Nat) : Int) ≤ 1099511627776) :
    laws_markRuleS k L m = some ((m + ((21 * L.length : Nat) : Int), ()), (markF markR 21 L.length m, ())) := by
  unfold laws_markRuleS
  have run := mark_run (step := laws_markRuleS_s2) (E := markR) (c := 21) z_Rule (fun L m i rec hi hl g0 g1 => by
      have e1 := we1 g0 g1
      have e2 := we2 g0 g1
      have e3 := we3 g0 g1
      have e4 := we4 g0 g1
      have e5 := we5 g0 g1
      have e6 := we6 g0 g1
      have e7 := we7 g0 g1
      have e8 := we8 g0 g1
      have e9 := we9 g0 g1
      have e10 := we10 g0 g1
      have e11 := we11 g0 g1
      have e12 := we12 g0 g1
      have e13 := we13 g0 g1
      have e14 := we14 g0 g1
      have e15 := we15 g0 g1
      have e16 := we16 g0 g1
      have e17 := we17 g0 g1
      have e18 := we18 g0 g1
      have e19 := we19 g0 g1
      have e20 := we20 g0 g1
      have e21 := we21 g0 g1
      have ei : IntKind.wrap .i64 ((i : Int) + 1) = ((i + 1 : Nat) : Int) := w64 (by omega)
      have c1 : decide ((i : Int) < ((L.length : Nat) : Int)) = true := decide_eq_true (by omega)
      have c2 : decide ((0 : Int) ≤ (i : Int)) = true := decide_eq_true (by omega)
      have c3 : decide (i < L.length) = true := decide_eq_true (by omega)
      have hs : ∀ e, (L.set i e).getD i z_Rule = e := fun e => set_getD L i e z_Rule hi
      unfold laws_markRuleS_s2 markR
      simp only [e1, e2, e3, e4, e5, e6, e7, e8, e9, e10, e11, e12, e13, e14, e15, e16, e17, e18, e19, e20, e21, ei, Int.toNat_natCast, List.length_set, c1, c2, c3, Bool.and_self, cond_true, hs, List.set_set]
      rfl) (fun L m rec => by
      unfold laws_markRuleS_s2
      exact bif_f (decide_eq_false (by dsimp only; omega))) hk hL h0 hm
  rw [run]; rfl
theorem heldRule_eq (k : Nat) (hk : MM < k) (n : Nat) (hn : n ≤ 1048576) (m : Int) (h0 : 0 ≤ m) (hm : m + ((21 * n : Nat) : Int) ≤ 1099511627776) :
    laws_heldRuleS k (markF markR 21 n m) m = some ((m + ((21 * n : Nat) : Int), ()), ()) := by
  unfold laws_heldRuleS
  have run := held_run (step := laws_heldRuleS_s2) (E := markR) (c := 21) z_Rule (fun L m i rec hi hl g0 g1 he => by
      have e1 := we1 g0 g1
      have e2 := we2 g0 g1
      have e3 := we3 g0 g1
      have e4 := we4 g0 g1
      have e5 := we5 g0 g1
      have e6 := we6 g0 g1
      have e7 := we7 g0 g1
      have e8 := we8 g0 g1
      have e9 := we9 g0 g1
      have e10 := we10 g0 g1
      have e11 := we11 g0 g1
      have e12 := we12 g0 g1
      have e13 := we13 g0 g1
      have e14 := we14 g0 g1
      have e15 := we15 g0 g1
      have e16 := we16 g0 g1
      have e17 := we17 g0 g1
      have e18 := we18 g0 g1
      have e19 := we19 g0 g1
      have e20 := we20 g0 g1
      have e21 := we21 g0 g1
      have ei : IntKind.wrap .i64 ((i : Int) + 1) = ((i + 1 : Nat) : Int) := w64 (by omega)
      have c1 : decide ((i : Int) < ((L.length : Nat) : Int)) = true := decide_eq_true (by omega)
      have c2 : decide ((0 : Int) ≤ (i : Int)) = true := decide_eq_true (by omega)
      have c3 : decide (i < L.length) = true := decide_eq_true (by omega)
      unfold laws_heldRuleS_s2
      simp only [e1, e2, e3, e4, e5, e6, e7, e8, e9, e10, e11, e12, e13, e14, e15, e16, e17, e18, e19, e20, e21, ei, Int.toNat_natCast, he, c1, c2, c3, Bool.and_self, cond_true, markR, decide_true, Bool.not_true, cond_false]
      rfl) (fun L m rec => by
      unfold laws_heldRuleS_s2
      exact bif_f (decide_eq_false (by dsimp only; omega))) hk hn h0 hm
  rw [run]; rfl
end Go.Tw
