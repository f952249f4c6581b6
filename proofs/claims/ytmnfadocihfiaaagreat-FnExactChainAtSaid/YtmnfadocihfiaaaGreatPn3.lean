/- Plain facts on the mirrors of the functions are proved here. -/
import Derived.Test.YtmnfadocihfiaaaGreatPn2
set_option linter.all false
namespace Go.Tw
open Go Go.RowKit
def rngB (lo hi : Int) : Bool := decide (0 ≤ lo) && (decide (lo ≤ hi) && decide (hi ≤ 65535))
theorem rngI (lo hi : Int) : impl_isRange lo hi = some ((rngB lo hi, ()), ()) := by
  unfold impl_isRange rngB
  cases decide (0 ≤ lo) <;> cases decide (lo ≤ hi) <;> rfl
theorem rngS (lo hi : Int) : spec_l09Range lo hi = some ((rngB lo hi, ()), ()) := by
  unfold spec_l09Range rngB
  cases decide (0 ≤ lo) <;> cases decide (lo ≤ hi) <;> rfl
def inB (x a b : Int) : Bool := decide (a ≤ x) && decide (x ≤ b)
theorem inI (x a b : Int) : impl_within x a b = some ((inB x a b, ()), ()) := within_eq x a b
theorem inS (x b : Int) : spec_l05In x b = some ((inB x 0 b, ()), ()) := by
  unfold spec_l05In inB
  cases decide (0 ≤ x) <;> rfl
def ruleB (r : D_Rule) : Bool :=
  inB r.1 1 9999 && (prefB r.2.1 && (prefB r.2.2.1 && (inB r.2.2.2.1 (-1) 255 && (rngB r.2.2.2.2.1 r.2.2.2.2.2.1 && (rngB r.2.2.2.2.2.2.1 r.2.2.2.2.2.2.2.1 && (inB r.2.2.2.2.2.2.2.2.1 1 8 && (inB r.2.2.2.2.2.2.2.2.2.1 1 10 && inB r.2.2.2.2.2.2.2.2.2.2.1 1 8)))))))
theorem ruleI (k : Nat) (hk : MM < k) (r : D_Rule) : impl_RuleOk k r = some ((ruleB r, ()), ()) := by
  unfold impl_RuleOk ruleB
  simp only [inI, prefI k hk, rngI, Option.bind_some]
  generalize inB r.1 1 9999 = b1
  generalize prefB r.2.1 = b2
  generalize prefB r.2.2.1 = b3
  generalize inB r.2.2.2.1 (-1) 255 = b4
  generalize rngB r.2.2.2.2.1 r.2.2.2.2.2.1 = b5
  generalize rngB r.2.2.2.2.2.2.1 r.2.2.2.2.2.2.2.1 = b6
  generalize inB r.2.2.2.2.2.2.2.2.1 1 8 = b7
  generalize inB r.2.2.2.2.2.2.2.2.2.1 1 10 = b8
  cases b1 <;> cases b2 <;> cases b3 <;> cases b4 <;> cases b5 <;> cases b6 <;> cases b7 <;> cases b8 <;> rfl
theorem ruleS (k : Nat) (hk : MM < k) (r : D_Rule) : spec_RuleOk k r = some ((ruleB r, ()), ()) := by
  unfold spec_RuleOk ruleB inB
  simp only [prefS k hk, rngS, Option.bind_some, leN2]
  generalize prefB r.2.1 = b2
  generalize prefB r.2.2.1 = b3
  generalize rngB r.2.2.2.2.1 r.2.2.2.2.2.1 = b5
  generalize rngB r.2.2.2.2.2.2.1 r.2.2.2.2.2.2.2.1 = b6
  generalize decide (1 ≤ r.1) = a1
  generalize decide (r.1 ≤ 9999) = a2
  generalize decide (-1 ≤ r.2.2.2.1) = a3
  generalize decide (r.2.2.2.1 ≤ 255) = a4
  generalize decide (1 ≤ r.2.2.2.2.2.2.2.2.1) = a5
  generalize decide (r.2.2.2.2.2.2.2.2.1 ≤ 8) = a6
  generalize decide (1 ≤ r.2.2.2.2.2.2.2.2.2.1) = a7
  generalize decide (r.2.2.2.2.2.2.2.2.2.1 ≤ 10) = a8
  generalize decide (1 ≤ r.2.2.2.2.2.2.2.2.2.2.1) = a9
  cases a1
  · rfl
  cases a2
  · rfl
  cases b2
  · rfl
  cases b3
  · rfl
  cases a3
  · rfl
  cases a4
  · rfl
  cases b5
  · rfl
  cases b6
  · rfl
  cases a5
  · rfl
  cases a6
  · rfl
  cases a7
  · rfl
  cases a8
  · rfl
  cases a9 <;> rfl
def limB (l : D_Limits) : Bool := inB l.1 1 64 && (inB l.2.1 1 100000 && (inB l.2.2.1 1 1000000 && inB l.2.2.2.1 0 100000))
theorem limI (l : D_Limits) : impl_LimitsOk l = some ((limB l, ()), ()) := by
  unfold impl_LimitsOk limB
  simp only [inI, Option.bind_some]
  cases inB l.1 1 64 <;> cases inB l.2.1 1 100000 <;> cases inB l.2.2.1 1 1000000 <;> rfl
theorem limS (l : D_Limits) : spec_LimitsOk l = some ((limB l, ()), ()) := by
  unfold spec_LimitsOk limB inB
  simp only [leN2]
  cases decide (1 ≤ l.1) <;> cases decide (l.1 ≤ 64) <;> cases decide (1 ≤ l.2.1) <;> cases decide (l.2.1 ≤ 100000) <;> cases decide (1 ≤ l.2.2.1) <;> cases decide (l.2.2.1 ≤ 1000000) <;> cases decide (0 ≤ l.2.2.2.1) <;> rfl
def twinB (a b : D_Prefix) : Bool := prefB a && (prefB b && (!anyP a && (!anyP b && (decide (a.1.1 = b.1.1) && decide (a.2.1 = b.2.1)))))
theorem twinI (k : Nat) (hk : MM < k) (a b : D_Prefix) : impl_arePairOf k a b = some ((twinB a b, ()), ()) := by
  unfold impl_arePairOf twinB
  simp only [prefI k hk, anyI, Option.bind_some]
  cases prefB a <;> cases prefB b <;> cases anyP a <;> cases anyP b <;> cases decide (a.1.1 = b.1.1) <;> rfl
theorem twinS (k : Nat) (hk : MM < k) (a b : D_Prefix) : spec_l10Twins k a b = some ((twinB a b, ()), ()) := by
  unfold spec_l10Twins twinB
  simp only [prefS k hk, anyS, Option.bind_some]
  cases prefB a <;> cases prefB b <;> cases anyP a <;> cases anyP b <;> cases decide (a.1.1 = b.1.1) <;> rfl
def z3 (pr lo hi : Int) : Bool := decide (pr = 0) && (decide (lo = 0) && decide (hi = 0))
def modB (m : D_Module) : Bool :=
  bif decide (m.1 = 1) then prefB m.2.1 && (prefB m.2.2.1 && (inB m.2.2.2.1 (-1) 255 && (rngB m.2.2.2.2.1 m.2.2.2.2.2.1 && decide (m.2.2.2.2.2.2.1 = 0))))
  else bif decide (m.1 = 2) || decide (m.1 = 3) then twinB m.2.1 m.2.2.1 && (z3 m.2.2.2.1 m.2.2.2.2.1 m.2.2.2.2.2.1 && decide (m.2.2.2.2.2.2.1 = 0))
  else bif decide (m.1 = 5) then (anyP m.2.1 && anyP m.2.2.1) && (z3 m.2.2.2.1 m.2.2.2.2.1 m.2.2.2.2.2.1 && inB m.2.2.2.2.2.2.1 0 63)
  else bif decide (m.1 = 7) then (anyP m.2.1 && anyP m.2.2.1) && (z3 m.2.2.2.1 m.2.2.2.2.1 m.2.2.2.2.2.1 && inB m.2.2.2.2.2.2.1 1 4)
  else bif decide (m.1 = 4) || decide (m.1 = 6) then (anyP m.2.1 && anyP m.2.2.1) && (z3 m.2.2.2.1 m.2.2.2.2.1 m.2.2.2.2.2.1 && decide (m.2.2.2.2.2.2.1 = 0))
  else false
theorem kinds (c : Int) : c = 1 ∨ c = 2 ∨ c = 3 ∨ c = 4 ∨ c = 5 ∨ c = 6 ∨ c = 7 ∨ (c ≠ 1 ∧ c ≠ 2 ∧ c ≠ 3 ∧ c ≠ 4 ∧ c ≠ 5 ∧ c ≠ 6 ∧ c ≠ 7 ∧ ((1 ≤ c ∧ ¬ c ≤ 7) ∨ (¬ 1 ≤ c ∧ c ≤ 7))) := by omega
theorem anyP_def (p : D_Prefix) : (((decide (p.1.1 = 0)) && ((decide (p.1.2.1 = 0)) && ((decide (p.1.2.2.1 = 0)) && ((decide (p.1.2.2.2.1 = 0)) && ((decide (p.1.2.2.2.2.1 = 0)) && true))))) && ((decide (p.2.1 = 0)) && true)) = anyP p := rfl
theorem modI (k : Nat) (hk : MM < k) (m : D_Module) : impl_ModuleOk k m = some ((modB m, ()), ()) := by
  obtain ⟨c, f, t, pr, lo, hi, n, u⟩ := m
  unfold impl_ModuleOk modB z3
  simp only [prefI k hk, inI, rngI, twinI k hk, anyP_def, Option.bind_some]
  generalize prefB f = b1
  generalize prefB t = b2
  generalize anyP f = b3
  generalize anyP t = b4
  generalize twinB f t = b5
  generalize rngB lo hi = b6
  generalize inB pr (-1) 255 = b7
  generalize inB n 0 63 = b8
  generalize inB n 1 4 = b9
  generalize decide (n = 0) = a1
  generalize decide (pr = 0) = a2
  generalize decide (lo = 0) = a3
  generalize decide (hi = 0) = a4
  rcases kinds c with rfl | rfl | rfl | rfl | rfl | rfl | rfl | ⟨h1, h2, h3, h4, h5, h6, h7, _⟩
  · cases b1 <;> cases b2 <;> cases b7 <;> cases b6 <;> cases a1 <;> rfl
  · cases b5 <;> cases a1 <;> cases a2 <;> cases a3 <;> cases a4 <;> rfl
  · cases b5 <;> cases a1 <;> cases a2 <;> cases a3 <;> cases a4 <;> rfl
  · cases b3 <;> cases b4 <;> cases a1 <;> cases a2 <;> cases a3 <;> cases a4 <;> rfl
  · cases b3 <;> cases b4 <;> cases b8 <;> cases a2 <;> cases a3 <;> cases a4 <;> rfl
  · cases b3 <;> cases b4 <;> cases a1 <;> cases a2 <;> cases a3 <;> cases a4 <;> rfl
  · cases b3 <;> cases b4 <;> cases b9 <;> cases a2 <;> cases a3 <;> cases a4 <;> rfl
  · simp only [h1, h2, h3, h4, h5, h6, h7, decide_false, cond_false, Bool.or_false]
theorem modS (k : Nat) (hk : MM < k) (m : D_Module) : spec_ModuleOk k m = some ((modB m, ()), ()) := by
  obtain ⟨c, f, t, pr, lo, hi, n, u⟩ := m
  unfold spec_ModuleOk modB z3
  simp only [prefS k hk, inS, rngS, twinS k hk, anyS, Option.bind_some, leN2]
  generalize prefB f = b1
  generalize prefB t = b2
  generalize anyP f = b3
  generalize anyP t = b4
  generalize twinB f t = b5
  generalize rngB lo hi = b6
  generalize inB n 0 63 = b8
  have e7 : inB pr (-1) 255 = (decide (-1 ≤ pr) && decide (pr ≤ 255)) := rfl
  have e9 : inB n 1 4 = (decide (1 ≤ n) && decide (n ≤ 4)) := rfl
  rw [e7, e9]
  generalize decide (-1 ≤ pr) = c1
  generalize decide (pr ≤ 255) = c2
  generalize decide (1 ≤ n) = c3
  generalize decide (n ≤ 4) = c4
  generalize decide (n = 0) = a1
  generalize decide (pr = 0) = a2
  generalize decide (lo = 0) = a3
  generalize decide (hi = 0) = a4
  rcases kinds c with rfl | rfl | rfl | rfl | rfl | rfl | rfl | ⟨h1, h2, h3, h4, h5, h6, h7, h8 | h8⟩
  · cases b1 <;> cases b2 <;> cases c1 <;> cases c2 <;> cases b6 <;> cases a1 <;> rfl
  · cases b5 <;> cases a1 <;> cases a2 <;> cases a3 <;> cases a4 <;> rfl
  · cases b5 <;> cases a1 <;> cases a2 <;> cases a3 <;> cases a4 <;> rfl
  · cases b3 <;> cases b4 <;> cases a1 <;> cases a2 <;> cases a3 <;> cases a4 <;> rfl
  · cases b3 <;> cases b4 <;> cases b8 <;> cases a2 <;> cases a3 <;> cases a4 <;> rfl
  · cases b3 <;> cases b4 <;> cases a1 <;> cases a2 <;> cases a3 <;> cases a4 <;> rfl
  · cases b3 <;> cases b4 <;> cases c3 <;> cases c4 <;> cases a2 <;> cases a3 <;> cases a4 <;> rfl
  · simp only [h1, h2, h3, h4, h5, h6, h7, h8.1, h8.2, decide_false, decide_true, cond_false, cond_true, Bool.or_false, Bool.not_false, Bool.not_true]
  · simp only [h1, h2, h3, h4, h5, h6, h7, h8.1, h8.2, decide_false, decide_true, cond_false, cond_true, Bool.or_false, Bool.not_false, Bool.not_true]
def chainB (l : List D_Module) : Bool := decide (((l.length : Nat) : Int) ≤ 8) && !l.any (fun m => !modB m)
theorem chainI (k : Nat) (hk : MM < k) (l : List D_Module) : impl_ChainOk k l = some ((chainB l, ()), ()) := by
  have hM : MM = 1048576 := rfl
  unfold impl_ChainOk chainB
  by_cases h8 : ((l.length : Nat) : Int) ≤ 8
  case neg => rw [bif_f (decide_eq_false h8), decide_eq_false h8]; rfl
  rw [bif_t (decide_eq_true h8), decide_eq_true h8]
  have run := search_run (step := slices_IndexFunc_impl_Module_impl_Module_s2 k) (st := fun i => ((), l, (), ((l.length : Nat) : Int), (i : Int), ())) (n := l.length) (hit := fun i => bif !modB (l.getD i z_Module) then some (Sum.inl ((), (i : Int), ())) else none) (fin := Sum.inr ((), ())) (fun i hi rec => by
      unfold slices_IndexFunc_impl_Module_impl_Module_s2 impl_ChainOk_1
      rw [bif_t (by simp; omega), bif_t (by simp; omega), bif_t (by simp; omega)]
      simp only [Int.toNat_natCast, modI k hk, Option.bind_some]
      rw [w64 (by omega)]
      cases modB (l.getD i z_Module) <;> rfl) (fun rec => by
      unfold slices_IndexFunc_impl_Module_impl_Module_s2
      rw [bif_f (by simp)]) l.length 0 k (by omega) (by omega)
  unfold slices_ContainsFunc_impl_Module_impl_Module slices_IndexFunc_impl_Module_impl_Module
  rw [show iter (slices_IndexFunc_impl_Module_impl_Module_s2 k) k ((), l, (), (((List.length l) : Nat) : Int), (0 : Int), ()) = _ from run]
  rcases sch_any (x := l) (z := z_Module) (p := fun m => !modB m) (f := fun i => (Sum.inl ((), (i : Int), ()) : (Unit × (Int × Unit)) ⊕ (Unit × Unit))) (fin := Sum.inr ((), ())) with ⟨h1, j, _, h2⟩ | ⟨h1, h2⟩
  · rw [h2, h1]; simp
  · rw [h2, h1]; simp
theorem chainS (k : Nat) (hk : MM < k) (l : List D_Module) : spec_ChainOk k l = some ((chainB l, ()), ()) := by
  have hM : MM = 1048576 := rfl
  unfold spec_ChainOk chainB
  rw [leN2]
  by_cases h8 : ((l.length : Nat) : Int) ≤ 8
  case neg => rw [decide_eq_false h8]; rfl
  rw [decide_eq_true h8]
  have run := search_run (step := spec_ChainOk_s4 k) (st := fun i => ((), l, (i : Int), ())) (n := l.length) (hit := fun i => bif !modB (l.getD i z_Module) then some (Sum.inl ((), false, ())) else none) (fin := Sum.inr ((), ())) (fun i hi rec => by
      unfold spec_ChainOk_s4
      rw [bif_t (by simp; omega), bif_t (by simp; omega), bif_t (by simp; omega)]
      simp only [Int.toNat_natCast, modS k hk, Option.bind_some]
      rw [w64 (by omega)]
      cases modB (l.getD i z_Module) <;> rfl) (fun rec => by
      unfold spec_ChainOk_s4
      rw [bif_f (by simp)]) l.length 0 k (by omega) (by omega)
  simp only [Bool.not_true, cond_false]
  rw [show iter (spec_ChainOk_s4 k) k ((), l, (0 : Int), ()) = _ from run]
  rcases sch_any (x := l) (z := z_Module) (p := fun m => !modB m) (f := fun i => (Sum.inl ((), false, ()) : (Unit × (Bool × Unit)) ⊕ (Unit × Unit))) (fin := Sum.inr ((), ())) with ⟨h1, j, _, h2⟩ | ⟨h1, h2⟩
  · rw [h2, h1]; rfl
  · rw [h2, h1]; rfl
end Go.Tw
