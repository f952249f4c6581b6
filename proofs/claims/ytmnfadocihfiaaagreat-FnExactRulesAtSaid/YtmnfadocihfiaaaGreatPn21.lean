/- Plain facts on the mirrors of the functions are proved here. -/
import Derived.Test.YtmnfadocihfiaaaGreatPn20
import Derived.Test.YtmnfadocihfiaaaGreatPf5
set_option linter.all false
set_option maxRecDepth 100000
set_option maxHeartbeats 4000000
namespace Go.Tw
open Go Sem
theorem thru_foldl {α A : Type} (g : A → α → A) : ∀ (l : List α) (i : Nat) (a : A), thru (fun _ e a => g a e) l i a = l.foldl g a
  | [], i, a => rfl
  | e :: l, i, a => by simp only [thru, List.foldl_cons]; exact thru_foldl g l _ _
theorem cmdRd_code {d : List Int} (h : (cmdRd d).2 ≠ 0) : (cmdRd d).1 = zC := by
  unfold cmdRd at h ⊢
  split
  · rfl
  split
  · rfl
  split
  · rfl
  split
  · rename_i h1 h2 h3 h4
    rw [if_neg h1, if_neg h2, if_neg h3, dif_pos h4] at h
    exact absurd rfl h
  · rfl
noncomputable def evR (l : List D_Rule) (e : D_Event) : List D_Rule := if e.1 = 3 then nextR l (cmdRd e.2.2.1).1 else l
noncomputable def cmC (a : List D_Cmd) (e : D_Event) : List D_Cmd := if e.1 = 3 then (if (cmdRd e.2.2.1).2 = 0 then a ++ [(cmdRd e.2.2.1).1] else a) else a
theorem fold_two : ∀ (l : List D_Event) (a : List D_Cmd), (l.foldl cmC a).foldl nextR [] = l.foldl evR (a.foldl nextR [])
  | [], a => rfl
  | e :: l, a => by
    rw [List.foldl_cons, List.foldl_cons, fold_two l]
    congr 1
    unfold cmC evR
    by_cases h : e.1 = 3
    · rw [if_pos h, if_pos h]
      by_cases g : (cmdRd e.2.2.1).2 = 0
      · rw [if_pos g, List.foldl_append]; rfl
      · rw [if_neg g, cmdRd_code g, nextR_z]
    · rw [if_neg h, if_neg h]
theorem evR_le {l : List D_Rule} (h : l.length ≤ 32) (e : D_Event) : (evR l e).length ≤ 32 := by
  unfold evR
  split
  · exact nextR_le h _
  · exact h
theorem fold_le : ∀ (x : List D_Event) {l : List D_Rule}, l.length ≤ 32 → (x.foldl evR l).length ≤ 32
  | [], l, h => h
  | e :: x, l, h => fold_le x (evR_le h e)
theorem ev_len {e : D_Event} (h : evOkB e = true) : e.2.2.1.length ≤ 2000 := by
  unfold evOkB at h
  repeat' split at h
  all_goals simp at h <;> first | omega | skip
  all_goals (first | (have := h.2.1; omega) | (have := h.2.2.1; simp [this]) | (have := h.2.1; simp [this]) | skip)
theorem evs_facts {x : List D_Event} (h : evsOk x = true) : x.length ≤ 200 ∧ ∀ e ∈ x, e.2.2.1.length ≤ 2000 := by
  unfold evsOk at h
  simp only [Bool.and_eq_true_iff, decide_eq_true_eq] at h
  refine ⟨by omega, fun e he => ev_len ?_⟩
  exact List.all_eq_true.1 h.2.1 e he
noncomputable def rulP (x : List D_Event) (n : Int) : List D_Rule := bif evsOk x && (decide (0 ≤ n) && decide (n ≤ ((x.length : Nat) : Int))) then (x.take n.toNat).foldl evR [] else []
theorem rulP_le (x : List D_Event) (n : Int) : (rulP x n).length ≤ 32 := by
  unfold rulP
  cases evsOk x && (decide (0 ≤ n) && decide (n ≤ ((x.length : Nat) : Int)))
  · simp
  · exact fold_le _ (by simp)
theorem getD_tkE {x : List D_Event} {N i : Nat} (h : i < N) (hN : N ≤ x.length) : (x.take N).getD i z_Event = x.getD i z_Event := by
  rw [getD_at x z_Event i (by omega), getD_at (x.take N) z_Event i (by rw [List.length_take]; omega), List.getElem_take]
theorem rulesS (k : Nat) (hk : MM < k) (x : List D_Event) (hx : x.length ≤ 1048576) (hb : ∀ e ∈ x, bytesP e.2.2.1) (n : Int) : spec_RulesAt k x n = some ((rulP x n, ()), ()) := by
  have hM : MM = 1048576 := rfl
  unfold spec_RulesAt rulP
  rw [spec_EventsOk_eq k hk x (by have : M0 = 1048576 := rfl; omega), Option.bind_some]
  dsimp only
  cases he : evsOk x
  case false => rfl
  obtain ⟨h2, h3⟩ := evs_facts he
  simp only [Bool.not_true, Bool.not_false, cond_true, Bool.true_and]
  by_cases h0 : 0 ≤ n
  case neg => rw [decide_eq_true (show n < 0 by omega), decide_eq_false h0]; rfl
  rw [decide_eq_false (show ¬ n < 0 by omega), decide_eq_true h0]
  by_cases hn : n ≤ ((x.length : Nat) : Int)
  case neg => rw [decide_eq_false hn, bif_t (by rfl), bif_t (decide_eq_true (by omega))]; rfl
  rw [decide_eq_true hn, bif_t (by rfl), bif_f (decide_eq_false (by omega)), bif_t (by rfl)]
  obtain ⟨N, hN⟩ : ∃ N : Nat, n = N := ⟨n.toNat, by omega⟩
  subst hN
  rw [Int.toNat_natCast]
  have hl : (x.take N).length = N := by rw [List.length_take]; omega
  have run := thru_run0 (x := x.take N) (step := spec_RulesAt_s5 k) (st := fun i a => ((), x, (N : Int), a, (i : Int), ())) (g := fun _ e a => evR a e) (fin := fun a => ((), a, ())) z_Event (fun i a => a.length ≤ 32)
    (fun i a hi hI rec => by
      rw [hl] at hi
      unfold spec_RulesAt_s5
      dsimp only [Int.toNat_natCast]
      have hm := getD_mem x z_Event i (by omega)
      rw [getD_tkE hi (by omega), readS k hk _ (hb _ hm) (by have := h3 _ hm; omega), w64 (by omega)]
      have c1 : decide ((i : Int) < ((x.length : Nat) : Int)) = true := decide_eq_true (by omega)
      have c2 : decide ((0 : Int) ≤ (i : Int)) = true := decide_eq_true (by omega)
      have c3 : decide (i < x.length) = true := decide_eq_true (by omega)
      have c4 : decide ((i : Int) < (N : Int)) = true := decide_eq_true (by omega)
      obtain ⟨e, hee⟩ : ∃ e, e = x.getD i z_Event := ⟨_, rfl⟩
      simp only [← hee]
      simp only [c1, c2, c3, c4, Bool.and_self, cond_true, Option.bind_some]
      unfold evR
      by_cases h : e.1 = 3
      · rw [decide_eq_true h, if_pos h]
        simp only [Bool.not_true, cond_false]
        obtain ⟨c, hc⟩ : ∃ c, c = (cmdRd e.2.2.1).1 := ⟨_, rfl⟩
        rw [← hc]
        unfold nextR
        rw [addS k hk a (by omega), dropS k hk a (by omega)]
        simp only [Option.bind_some]
        by_cases g3 : c.1 = 3
        · rw [decide_eq_true g3, decide_eq_false (show ¬ c.1 = 4 by omega), if_pos g3]
          simp only [cond_true, cond_false]
          by_cases q : (addR a c.2.2.2.1).2 = 0
          · rw [if_pos q, bif_t (decide_eq_true q)]; rfl
          · rw [if_neg q, bif_f (decide_eq_false q)]; rfl
        · rw [decide_eq_false g3, if_neg g3]
          by_cases g4 : c.1 = 4
          · rw [decide_eq_true g4, if_pos g4]
            simp only [cond_true, cond_false]
            by_cases q : (drpR a c.2.1).2 = 0
            · rw [if_pos q, bif_t (decide_eq_true q)]; rfl
            · rw [if_neg q, bif_f (decide_eq_false q)]; rfl
          · rw [decide_eq_false g4, if_neg g4]; rfl
      · rw [decide_eq_false h, if_neg h]; rfl)
    (fun i a hi hI => evR_le hI _)
    (fun a hI rec => by
      unfold spec_RulesAt_s5
      exact bif_f (decide_eq_false (by dsimp only; omega))) (k := k) (a := []) (by omega) (by simp)
  rw [show iter (spec_RulesAt_s5 k) k ((), x, (N : Int), ([] : List D_Rule), (0 : Int), ()) = _ from run, thru_foldl evR, Option.bind_some]
theorem cmC_le (a : List D_Cmd) (e : D_Event) : (cmC a e).length ≤ a.length + 1 := by
  unfold cmC
  split
  · split
    · simp
    · omega
  · omega
theorem fold_leC : ∀ (x : List D_Event) (l : List D_Cmd), (x.foldl cmC l).length ≤ l.length + x.length
  | [], l => by simp
  | e :: x, l => by
    have h1 := fold_leC x (cmC l e)
    have h2 := cmC_le l e
    rw [List.foldl_cons]
    simp only [List.length_cons]; omega
theorem rulesI (k : Nat) (hk : MM < k) (x : List D_Event) (hx : x.length ≤ 1048576) (hb : ∀ e ∈ x, bytesP e.2.2.1) (n : Int) : impl_RulesAt k x n = some ((rulP x n, ()), ()) := by
  have hM : MM = 1048576 := rfl
  unfold impl_RulesAt impl_commandsOf rulP
  rw [impl_EventsOk_eq k hk x (by have : M0 = 1048576 := rfl; omega), Option.bind_some]
  dsimp only
  cases he : evsOk x
  case false => rfl
  obtain ⟨h2, h3⟩ := evs_facts he
  simp only [Bool.not_true, Bool.not_false, cond_true, Bool.true_and, inI, Option.bind_some]
  have e0 : inB n 0 ((x.length : Nat) : Int) = (decide (0 ≤ n) && decide (n ≤ ((x.length : Nat) : Int))) := rfl
  rw [e0]
  cases hc : (decide (0 ≤ n) && decide (n ≤ ((x.length : Nat) : Int)))
  case false => rfl
  simp only [Bool.not_true, cond_false, cond_true]
  simp only [Bool.and_eq_true_iff, decide_eq_true_eq] at hc
  obtain ⟨N, hN⟩ : ∃ N : Nat, n = N := ⟨n.toNat, by omega⟩
  subst hN
  rw [Int.toNat_natCast]
  obtain ⟨y, hy⟩ : ∃ y, y = x.take N := ⟨_, rfl⟩
  have hl : y.length = N := by rw [hy, List.length_take]; omega
  have hm' : ∀ e ∈ y, e ∈ x := fun e he => by rw [hy] at he; exact List.mem_of_mem_take he
  rw [← hy]
  have run := thru_run0 (x := y) (step := impl_commandsOf_s5 k) (st := fun i a => ((), a, y, ((y.length : Nat) : Int), (i : Int), ())) (g := fun _ e a => cmC a e) (fin := fun a => ((), a, ())) z_Event (fun i a => a.length ≤ i)
    (fun i a hi hI rec => by
      unfold impl_commandsOf_s5
      dsimp only [Int.toNat_natCast]
      have hm := hm' _ (getD_mem y z_Event i hi)
      rw [readI k hk _ (hb _ hm) (by have := h3 _ hm; omega), w64 (by omega)]
      have c1 : decide ((i : Int) < ((y.length : Nat) : Int)) = true := decide_eq_true (by omega)
      have c2 : decide ((0 : Int) ≤ (i : Int)) = true := decide_eq_true (by omega)
      have c3 : decide (i < y.length) = true := decide_eq_true (by omega)
      have c4 : decide ((a.length + 1) * 256 ≤ 1099511627776) = true := decide_eq_true (by omega)
      obtain ⟨e, hee⟩ : ∃ e, e = y.getD i z_Event := ⟨_, rfl⟩
      simp only [← hee]
      simp only [c1, c2, c3, c4, Bool.and_self, cond_true, Option.bind_some]
      unfold cmC
      by_cases h : e.1 = 3
      · rw [decide_eq_true h, if_pos h]
        by_cases q : (cmdRd e.2.2.1).2 = 0
        · rw [if_pos q, decide_eq_true q]; rfl
        · rw [if_neg q, decide_eq_false q]; rfl
      · rw [decide_eq_false h, if_neg h]; rfl)
    (fun i a hi hI => by have := cmC_le a (y.getD i z_Event); omega)
    (fun a hI rec => by
      unfold impl_commandsOf_s5
      exact bif_f (decide_eq_false (by dsimp only; omega))) (k := k) (a := []) (by omega) (by simp)
  have run' : iter (impl_commandsOf_s5 k) k ((), ([] : List D_Cmd), y, (((List.length y) : Nat) : Int), (0 : Int), ()) = some ((), y.foldl cmC [], ()) := by
    rw [← thru_foldl cmC y 0]; exact run
  rw [run']
  obtain ⟨C, hC⟩ : ∃ C, C = y.foldl cmC [] := ⟨_, rfl⟩
  have hCl : C.length ≤ 200 := by
    have := fold_leC y []
    rw [← hC] at this
    simp only [List.length_nil] at this; omega
  rw [← hC]
  simp only [Option.bind_some, Bool.not_true, cond_false]
  have run2 := thru_run0 (x := C) (step := impl_RulesAt_s6 k) (st := fun i a => ((), a, C, ((C.length : Nat) : Int), (i : Int), ())) (g := fun _ e a => nextR a e) (fin := fun a => ((), a, ())) z_Cmd (fun i a => a.length ≤ 32)
    (fun i a hi hI rec => by
      unfold impl_RulesAt_s6
      dsimp only [Int.toNat_natCast]
      rw [w64 (by omega)]
      have c1 : decide ((i : Int) < ((C.length : Nat) : Int)) = true := decide_eq_true (by omega)
      have c2 : decide ((0 : Int) ≤ (i : Int)) = true := decide_eq_true (by omega)
      have c3 : decide (i < C.length) = true := decide_eq_true (by omega)
      obtain ⟨c, hee⟩ : ∃ c, c = C.getD i z_Cmd := ⟨_, rfl⟩
      simp only [← hee]
      simp only [c1, c2, c3, Bool.and_self, cond_true]
      unfold nextR
      rw [addI k hk a (by omega), dropI k hk a (by omega)]
      simp only [Option.bind_some]
      by_cases g3 : c.1 = 3
      · rw [decide_eq_true g3, if_pos g3]
        simp only [cond_true, cond_false]
        by_cases q : (addR a c.2.2.2.1).2 = 0
        · rw [if_pos q, bif_t (decide_eq_true q)]; rfl
        · rw [if_neg q, bif_f (decide_eq_false q)]; rfl
      · rw [decide_eq_false g3, if_neg g3]
        by_cases g4 : c.1 = 4
        · rw [decide_eq_true g4, if_pos g4]
          simp only [cond_true, cond_false]
          by_cases q : (drpR a c.2.1).2 = 0
          · rw [if_pos q, bif_t (decide_eq_true q)]; rfl
          · rw [if_neg q, bif_f (decide_eq_false q)]; rfl
        · rw [decide_eq_false g4, if_neg g4]; rfl)
    (fun i a hi hI => nextR_le hI _)
    (fun a hI rec => by
      unfold impl_RulesAt_s6
      exact bif_f (decide_eq_false (by dsimp only; omega))) (k := k) (a := []) (by omega) (by simp)
  have run2' : iter (impl_RulesAt_s6 k) k ((), ([] : List D_Rule), C, (((List.length C) : Nat) : Int), (0 : Int), ()) = some ((), C.foldl nextR [], ()) := by
    rw [← thru_foldl nextR C 0]; exact run2
  rw [run2', hC, fold_two y []]
  rfl
end Go.Tw
