/- Plain facts on the mirrors of the functions are proved here. -/
import Derived.Test.YtmnfadocihfiaaaGreatPn18
set_option linter.all false
set_option maxRecDepth 100000
set_option maxHeartbeats 4000000
namespace Go.Tw
open Go Sem
theorem walk_add {O : Type} (n : Int) (o : O) (fin : List D_Rule → O) : ∀ (l : List D_Rule) (i : Nat) (a : List D_Rule), walk (fun _ (e : D_Rule) (a : List D_Rule) => bif decide (e.1 = n) then (Sum.inl o : O ⊕ List D_Rule) else Sum.inr (bif decide (e.1 < n) then a ++ [e] else a)) fin l i a = if (∃ e ∈ l, e.1 = n) then o else fin (a ++ l.filter fun e => decide (e.1 < n))
  | [], i, a => by simp [walk]
  | e :: l, i, a => by
    simp only [walk]
    by_cases h : e.1 = n
    · rw [decide_eq_true h, if_pos ⟨e, List.mem_cons_self, h⟩]; rfl
    · rw [decide_eq_false h]
      simp only [cond_false, Sum.elim_inr]
      rw [walk_add n o fin l]
      by_cases q : ∃ e ∈ l, e.1 = n
      · rw [if_pos q, if_pos (by obtain ⟨x, h1, h2⟩ := q; exact ⟨x, List.mem_cons_of_mem _ h1, h2⟩)]
      · rw [if_neg q, if_neg (by
          rintro ⟨x, h1, h2⟩
          rcases List.mem_cons.1 h1 with rfl | g
          · exact h h2
          · exact q ⟨x, g, h2⟩)]
        rw [List.filter_cons]
        by_cases g : e.1 < n
        · rw [decide_eq_true g]; simp
        · rw [decide_eq_false g]; simp
theorem fAt_iff {l : List D_Rule} {n : Int} : fAt l n < l.length ↔ ∃ e ∈ l, e.1 = n := by
  unfold fAt
  rw [List.findIdx_lt_length]
  simp
theorem addS (k : Nat) (hk : MM < k) (l : List D_Rule) (hl : l.length ≤ 1000) (r : D_Rule) : spec_RuleAdd k l r = some (((addR l r).1, (addR l r).2, ()), ()) := by
  have hM : MM = 1048576 := rfl
  unfold spec_RuleAdd addR
  rw [rsS k hk l hl, Option.bind_some]
  dsimp only
  cases hs : rsB l
  case false => rfl
  simp only [Bool.not_true, Bool.not_false, cond_true, Bool.true_and]
  rw [ruleS k hk, Option.bind_some]
  dsimp only
  cases ruleB r
  case false => rfl
  simp only [Bool.not_true, cond_false, cond_true]
  have run := walk_run0 (x := l) (step := spec_RuleAdd_s5) (st := fun i a => ((), l, r, a, (i : Int), ())) (f := fun _ e a => bif decide (e.1 = r.1) then (Sum.inl (Sum.inl ((), ([] : List D_Rule), (2 : Int), ())) : ((Unit × ((List D_Rule) × (Int × Unit))) ⊕ (Unit × ((List D_Rule) × (D_Rule × ((List D_Rule) × Unit))))) ⊕ List D_Rule) else Sum.inr (bif decide (e.1 < r.1) then a ++ [e] else a)) (fin := fun a => Sum.inr ((), l, r, a, ())) z_Rule (fun i a => a.length ≤ i)
    (fun i a hi hI rec => by
      unfold spec_RuleAdd_s5
      dsimp only [Int.toNat_natCast]
      rw [w64 (by omega)]
      have c1 : decide ((i : Int) < ((l.length : Nat) : Int)) = true := decide_eq_true (by omega)
      have c2 : decide ((0 : Int) ≤ (i : Int)) = true := decide_eq_true (by omega)
      have c3 : decide (i < l.length) = true := decide_eq_true (by omega)
      have c4 : decide (((a.length + 1) * 168) ≤ 1099511627776) = true := decide_eq_true (by omega)
      simp only [c1, c2, c3, c4, Bool.and_self, cond_true]
      cases decide ((l.getD i z_Rule).1 = r.1)
      · cases decide ((l.getD i z_Rule).1 < r.1) <;> rfl
      · rfl)
    (fun i a a' hi hI e => by
      cases g : decide ((l.getD i z_Rule).1 = r.1)
      · rw [g] at e
        simp only [cond_false, Sum.inr.injEq] at e
        subst e
        cases decide ((l.getD i z_Rule).1 < r.1)
        · simp only [cond_false]; omega
        · simp only [cond_true, List.length_append, List.length_cons, List.length_nil]; omega
      · rw [g] at e; cases e)
    (fun a hI rec => by
      unfold spec_RuleAdd_s5
      exact bif_f (decide_eq_false (by dsimp only; omega))) (k := k) (a := []) (by omega) (by simp)
  rw [show iter (spec_RuleAdd_s5) k ((), l, r, ([] : List D_Rule), (0 : Int), ()) = _ from run, walk_add]
  by_cases hf : ∃ e ∈ l, e.1 = r.1
  · rw [if_pos hf, if_pos (fAt_iff.2 hf)]; rfl
  rw [if_neg hf, if_neg (fun h => hf (fAt_iff.1 h)), List.nil_append, Option.bind_some, Sum.elim_inr]
  dsimp only
  by_cases h32 : l.length = 32
  · rw [if_pos h32, bif_t (decide_eq_true (by omega))]
  rw [if_neg h32, bif_f (decide_eq_false (by omega))]
  obtain ⟨F, hF⟩ : ∃ F, F = l.filter fun e => decide (e.1 < r.1) := ⟨_, rfl⟩
  have hFl : F.length ≤ l.length := by rw [hF]; exact List.length_filter_le _ _
  rw [← hF]
  rw [bif_t (decide_eq_true (by omega))]
  have run2 := thru_run0 (x := l) (step := spec_RuleAdd_s15) (st := fun i a => ((), l, r, a, (i : Int), ())) (g := fun _ e a => bif decide (r.1 < e.1) then a ++ [e] else a) (fin := fun a => ((), a, ())) z_Rule (fun i a => a.length ≤ i + l.length + 1)
    (fun i a hi hI rec => by
      unfold spec_RuleAdd_s15
      dsimp only [Int.toNat_natCast]
      rw [w64 (by omega)]
      have c1 : decide ((i : Int) < ((l.length : Nat) : Int)) = true := decide_eq_true (by omega)
      have c2 : decide ((0 : Int) ≤ (i : Int)) = true := decide_eq_true (by omega)
      have c3 : decide (i < l.length) = true := decide_eq_true (by omega)
      have c4 : decide (((a.length + 1) * 168) ≤ 1099511627776) = true := decide_eq_true (by omega)
      simp only [c1, c2, c3, c4, Bool.and_self, cond_true]
      cases decide (r.1 < (l.getD i z_Rule).1) <;> rfl)
    (fun i a hi hI => by
      cases decide (r.1 < (l.getD i z_Rule).1)
      · simp only [cond_false]; omega
      · simp only [cond_true, List.length_append, List.length_cons, List.length_nil]; omega)
    (fun a hI rec => by
      unfold spec_RuleAdd_s15
      exact bif_f (decide_eq_false (by dsimp only; omega))) (k := k) (a := F ++ [r]) (by omega) (by simp; omega)
  rw [show iter (spec_RuleAdd_s15) k ((), l, r, F ++ [r], (0 : Int), ()) = _ from run2, thru_filter, Option.bind_some, List.append_assoc]
theorem dropS (k : Nat) (hk : MM < k) (l : List D_Rule) (hl : l.length ≤ 1000) (n : Int) : spec_RuleDrop k l n = some (((drpR l n).1, (drpR l n).2, ()), ()) := by
  have hM : MM = 1048576 := rfl
  unfold spec_RuleDrop drpR
  rw [rsS k hk l hl, Option.bind_some]
  dsimp only
  cases hs : rsB l
  case false => rfl
  simp only [Bool.not_true, cond_false, cond_true]
  have run2 := thru_run0 (x := l) (step := spec_RuleDrop_s5) (st := fun i a => ((), l, n, a, (i : Int), ())) (g := fun _ e a => bif !decide (e.1 = n) then a ++ [e] else a) (fin := fun a => ((), l, a, ())) z_Rule (fun i a => a.length ≤ i)
    (fun i a hi hI rec => by
      unfold spec_RuleDrop_s5
      dsimp only [Int.toNat_natCast]
      rw [w64 (by omega)]
      have c1 : decide ((i : Int) < ((l.length : Nat) : Int)) = true := decide_eq_true (by omega)
      have c2 : decide ((0 : Int) ≤ (i : Int)) = true := decide_eq_true (by omega)
      have c3 : decide (i < l.length) = true := decide_eq_true (by omega)
      have c4 : decide (((a.length + 1) * 168) ≤ 1099511627776) = true := decide_eq_true (by omega)
      simp only [c1, c2, c3, c4, Bool.and_self, cond_true]
      cases decide ((l.getD i z_Rule).1 = n) <;> rfl)
    (fun i a hi hI => by
      cases decide ((l.getD i z_Rule).1 = n)
      · simp only [Bool.not_false, cond_true, List.length_append, List.length_cons, List.length_nil]; omega
      · simp only [Bool.not_true, cond_false]; omega)
    (fun a hI rec => by
      unfold spec_RuleDrop_s5
      exact bif_f (decide_eq_false (by dsimp only; omega))) (k := k) (a := []) (by omega) (by simp)
  rw [show iter (spec_RuleDrop_s5) k ((), l, n, ([] : List D_Rule), (0 : Int), ()) = _ from run2, thru_filter, Option.bind_some, List.nil_append]
  dsimp only
  by_cases hf : fAt l n < l.length
  · rw [if_pos hf]
    have e := congrArg List.length (drp_split hs hf)
    rw [List.length_append, List.length_take, List.length_drop] at e
    exact bif_f (decide_eq_false (by omega))
  · rw [if_neg hf]
    have : (l.filter fun e => !decide (e.1 = n)) = l := List.filter_eq_self.2 (fun e he => by rw [decide_eq_false (fAt_none hf e he)]; rfl)
    rw [this]
    exact bif_t (decide_eq_true rfl)
def nextR (l : List D_Rule) (c : D_Cmd) : List D_Rule :=
  if c.1 = 3 then (if (addR l c.2.2.2.1).2 = 0 then (addR l c.2.2.2.1).1 else l)
  else if c.1 = 4 then (if (drpR l c.2.1).2 = 0 then (drpR l c.2.1).1 else l) else l
theorem addR_le {l : List D_Rule} (h : l.length ≤ 32) (r : D_Rule) : (addR l r).1.length ≤ 32 := by
  unfold addR
  cases hs : rsB l
  · simp
  cases ruleB r
  · simp
  simp only [Bool.and_self, cond_true]
  by_cases hf : fAt l r.1 < l.length
  · rw [if_pos hf]; simp
  rw [if_neg hf]
  by_cases h3 : l.length = 32
  · rw [if_pos h3]; simp
  rw [if_neg h3]
  obtain ⟨s1, s2⟩ := add_split hs hf
  rw [s1, s2]
  have := pAt_le l r.1
  simp only [List.length_append, List.length_take, List.length_drop, List.length_cons, List.length_nil]; omega
theorem drpR_le {l : List D_Rule} (h : l.length ≤ 32) (n : Int) : (drpR l n).1.length ≤ 32 := by
  unfold drpR
  cases hs : rsB l
  · simp
  simp only [cond_true]
  by_cases hf : fAt l n < l.length
  · rw [if_pos hf]
    have := List.length_filter_le (fun e : D_Rule => !decide (e.1 = n)) l
    show (l.filter _).length ≤ 32
    omega
  · rw [if_neg hf]; simp
theorem nextR_le {l : List D_Rule} (h : l.length ≤ 32) (c : D_Cmd) : (nextR l c).length ≤ 32 := by
  unfold nextR
  split
  · split
    · exact addR_le h _
    · exact h
  · split
    · split
      · exact drpR_le h _
      · exact h
    · exact h
theorem nextR_z (l : List D_Rule) : nextR l zC = l := rfl
end Go.Tw
