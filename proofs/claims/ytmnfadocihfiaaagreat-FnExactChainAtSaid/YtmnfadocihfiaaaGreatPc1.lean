/- Plain facts on the mirrors of the functions are proved here. -/
import Derived.Test.YtmnfadocihfiaaaGreatPn20
import Derived.Test.YtmnfadocihfiaaaGreatPf6
set_option linter.all false
set_option maxRecDepth 100000
set_option maxHeartbeats 4000000
namespace Go.Tw
open Go Sem
theorem thru_foldl {α A : Type} (g : A → α → A) : ∀ (l : List α) (i : Nat) (a : A), thru (fun _ e a => g a e) l i a = l.foldl g a
  | [], i, a => rfl
  | e :: l, i, a => by simp only [thru, List.foldl_cons]; exact thru_foldl g l _ _
theorem cmdRd_code {d : List Int} (h : (cmdRd d).2 ≠ 0) : (cmdRd d).1 = zC := by
  unfold cmdRd at h ⊢
  split
  · rfl
  split
  · rfl
  split
  · rfl
  split
  · rename_i h1 h2 h3 h4
    rw [if_neg h1, if_neg h2, if_neg h3, dif_pos h4] at h
    exact absurd rfl h
  · rfl
theorem cmdRd_cmd (d : List Int) : (cmdRd d).1 = zC ∨ cmdB (cmdRd d).1 = true := by
  unfold cmdRd
  split
  · exact .inl rfl
  split
  · exact .inl rfl
  split
  · exact .inl rfl
  split
  · rename_i h
    exact .inr (Classical.choose_spec h).1
  · exact .inl rfl
def lastC (q : Int) (a : List D_Module) (c : D_Cmd) : List D_Module := bif decide (c.1 = 7) && decide (c.2.1 = q) then c.2.2.2.2.2.1 else a
theorem lastC_z (q : Int) (a : List D_Module) : lastC q a zC = a := rfl
theorem lastC_le {q : Int} {a : List D_Module} (h : a.length ≤ 8) (d : List Int) : (lastC q a (cmdRd d).1).length ≤ 8 := by
  rcases cmdRd_cmd d with e | e
  · rw [e]; exact h
  · revert e
    generalize (cmdRd d).1 = c
    intro e
    unfold lastC
    cases g : (decide (c.1 = 7) && decide (c.2.1 = q))
    · exact h
    · simp only [Bool.and_eq_true_iff, decide_eq_true_eq] at g
      unfold cmdB chainB at e
      rw [decide_eq_false (show ¬ c.1 = 1 by omega), decide_eq_false (show ¬ c.1 = 2 by omega), decide_eq_false (show ¬ c.1 = 3 by omega), decide_eq_false (show ¬ c.1 = 4 by omega), decide_eq_false (show ¬ c.1 = 5 by omega), decide_eq_false (show ¬ c.1 = 6 by omega), decide_eq_true g.1] at e
      simp only [cond_true, cond_false, Bool.and_eq_true_iff, decide_eq_true_eq] at e
      have := e.2.2.1
      simp only [cond_true]; omega
theorem backM_fold (q : Int) (l : List D_Cmd) : backM q l.reverse = l.foldl (lastC q) [] := by
  have h : ∀ r : List D_Cmd, backM q r = r.foldr (fun c a => lastC q a c) [] := by
    intro r
    induction r with
    | nil => rfl
    | cons c r ih => unfold backM; rw [ih]; rfl
  rw [h, List.foldr_reverse]
noncomputable def evH (q : Int) (l : List D_Module) (e : D_Event) : List D_Module := if e.1 = 3 then lastC q l (cmdRd e.2.2.1).1 else l
noncomputable def cmC (a : List D_Cmd) (e : D_Event) : List D_Cmd := if e.1 = 3 then (if (cmdRd e.2.2.1).2 = 0 then a ++ [(cmdRd e.2.2.1).1] else a) else a
theorem fold_twoC (q : Int) : ∀ (l : List D_Event) (a : List D_Cmd), (l.foldl cmC a).foldl (lastC q) [] = l.foldl (evH q) (a.foldl (lastC q) [])
  | [], a => rfl
  | e :: l, a => by
    rw [List.foldl_cons, List.foldl_cons, fold_twoC q l]
    congr 1
    unfold cmC evH
    by_cases h : e.1 = 3
    · rw [if_pos h, if_pos h]
      by_cases g : (cmdRd e.2.2.1).2 = 0
      · rw [if_pos g, List.foldl_append]; rfl
      · rw [if_neg g, cmdRd_code g, lastC_z]
    · rw [if_neg h, if_neg h]
theorem evH_le {q : Int} {l : List D_Module} (h : l.length ≤ 8) (e : D_Event) : (evH q l e).length ≤ 8 := by
  unfold evH
  split
  · exact lastC_le h _
  · exact h
theorem fold_leH {q : Int} : ∀ (x : List D_Event) {l : List D_Module}, l.length ≤ 8 → (x.foldl (evH q) l).length ≤ 8
  | [], l, h => h
  | e :: x, l, h => fold_leH x (evH_le h e)
theorem ev_len {e : D_Event} (h : evOkB e = true) : e.2.2.1.length ≤ 2000 := by
  unfold evOkB at h
  repeat' split at h
  all_goals simp at h <;> first | omega | skip
  all_goals (first | (have := h.2.1; omega) | (have := h.2.2.1; simp [this]) | (have := h.2.1; simp [this]) | skip)
theorem evs_facts {x : List D_Event} (h : evsOk x = true) : x.length ≤ 200 ∧ ∀ e ∈ x, e.2.2.1.length ≤ 2000 := by
  unfold evsOk at h
  simp only [Bool.and_eq_true_iff, decide_eq_true_eq] at h
  refine ⟨by omega, fun e he => ev_len ?_⟩
  exact List.all_eq_true.1 h.2.1 e he
noncomputable def chP (x : List D_Event) (n q : Int) : List D_Module := bif evsOk x && (decide (0 ≤ n) && decide (n ≤ ((x.length : Nat) : Int))) then (bif decide (1 ≤ q) && decide (q ≤ 8) then (x.take n.toNat).foldl (evH q) [] else []) else []
theorem chP_le (x : List D_Event) (n q : Int) : (chP x n q).length ≤ 8 := by
  unfold chP
  cases evsOk x && (decide (0 ≤ n) && decide (n ≤ ((x.length : Nat) : Int)))
  · simp
  · cases decide (1 ≤ q) && decide (q ≤ 8)
    · simp
    · exact fold_leH _ (by simp)
theorem getD_tkE {x : List D_Event} {N i : Nat} (h : i < N) (hN : N ≤ x.length) : (x.take N).getD i z_Event = x.getD i z_Event := by
  rw [getD_at x z_Event i (by omega), getD_at (x.take N) z_Event i (by rw [List.length_take]; omega), List.getElem_take]
theorem cmC_le (a : List D_Cmd) (e : D_Event) : (cmC a e).length ≤ a.length + 1 := by
  unfold cmC
  split
  · split
    · simp
    · omega
  · omega
theorem fold_leC : ∀ (x : List D_Event) (l : List D_Cmd), (x.foldl cmC l).length ≤ l.length + x.length
  | [], l => by simp
  | e :: x, l => by
    have h1 := fold_leC x (cmC l e)
    have h2 := cmC_le l e
    rw [List.foldl_cons]
    simp only [List.length_cons]; omega
theorem commandsI (k : Nat) (hk : MM < k) (x : List D_Event) (hx : x.length ≤ 1048576) (hb : ∀ e ∈ x, bytesP e.2.2.1) (n : Int) :
    impl_commandsOf k x n = some ((bif evsOk x && (decide (0 ≤ n) && decide (n ≤ ((x.length : Nat) : Int))) then ((x.take n.toNat).foldl cmC [], true, ()) else ([], false, ())), ()) := by
  have hM : MM = 1048576 := rfl
  unfold impl_commandsOf
  rw [impl_EventsOk_eq k hk x (by have : M0 = 1048576 := rfl; omega), Option.bind_some]
  dsimp only
  cases he : evsOk x
  case false => rfl
  obtain ⟨h2, h3⟩ := evs_facts he
  simp only [Bool.not_true, Bool.not_false, cond_true, Bool.true_and, inI, Option.bind_some]
  have e0 : inB n 0 ((x.length : Nat) : Int) = (decide (0 ≤ n) && decide (n ≤ ((x.length : Nat) : Int))) := rfl
  rw [e0]
  cases hc : (decide (0 ≤ n) && decide (n ≤ ((x.length : Nat) : Int)))
  case false => rfl
  simp only [Bool.not_true, cond_false, cond_true]
  simp only [Bool.and_eq_true_iff, decide_eq_true_eq] at hc
  obtain ⟨N, hN⟩ : ∃ N : Nat, n = N := ⟨n.toNat, by omega⟩
  subst hN
  rw [Int.toNat_natCast]
  obtain ⟨y, hy⟩ : ∃ y, y = x.take N := ⟨_, rfl⟩
  have hl : y.length = N := by rw [hy, List.length_take]; omega
  have hm' : ∀ e ∈ y, e ∈ x := fun e he => by rw [hy] at he; exact List.mem_of_mem_take he
  rw [← hy]
  have run := thru_run0 (x := y) (step := impl_commandsOf_s5 k) (st := fun i a => ((), a, y, ((y.length : Nat) : Int), (i : Int), ())) (g := fun _ e a => cmC a e) (fin := fun a => ((), a, ())) z_Event (fun i a => a.length ≤ i)
    (fun i a hi hI rec => by
      unfold impl_commandsOf_s5
      dsimp only [Int.toNat_natCast]
      have hm := hm' _ (getD_mem y z_Event i hi)
      rw [readI k hk _ (hb _ hm) (by have := h3 _ hm; omega), w64 (by omega)]
      have c1 : decide ((i : Int) < ((y.length : Nat) : Int)) = true := decide_eq_true (by omega)
      have c2 : decide ((0 : Int) ≤ (i : Int)) = true := decide_eq_true (by omega)
      have c3 : decide (i < y.length) = true := decide_eq_true (by omega)
      have c4 : decide ((a.length + 1) * 256 ≤ 1099511627776) = true := decide_eq_true (by omega)
      obtain ⟨e, hee⟩ : ∃ e, e = y.getD i z_Event := ⟨_, rfl⟩
      simp only [← hee]
      simp only [c1, c2, c3, c4, Bool.and_self, cond_true, Option.bind_some]
      unfold cmC
      by_cases h : e.1 = 3
      · rw [decide_eq_true h, if_pos h]
        by_cases q : (cmdRd e.2.2.1).2 = 0
        · rw [if_pos q, decide_eq_true q]; rfl
        · rw [if_neg q, decide_eq_false q]; rfl
      · rw [decide_eq_false h, if_neg h]; rfl)
    (fun i a hi hI => by have := cmC_le a (y.getD i z_Event); omega)
    (fun a hI rec => by
      unfold impl_commandsOf_s5
      exact bif_f (decide_eq_false (by dsimp only; omega))) (k := k) (a := []) (by omega) (by simp)
  have run' : iter (impl_commandsOf_s5 k) k ((), ([] : List D_Cmd), y, (((List.length y) : Nat) : Int), (0 : Int), ()) = some ((), y.foldl cmC [], ()) := by
    rw [← thru_foldl cmC y 0]; exact run
  rw [run']
  rfl
theorem chainAtI (k : Nat) (hk : MM < k) (x : List D_Event) (hx : x.length ≤ 1048576) (hb : ∀ e ∈ x, bytesP e.2.2.1) (n q : Int) : impl_ChainAt k x n q = some ((chP x n q, ()), ()) := by
  unfold impl_ChainAt chainC chP
  rw [commandsI k hk x hx hb, Option.bind_some]
  cases evsOk x && (decide (0 ≤ n) && decide (n ≤ ((x.length : Nat) : Int)))
  · rfl
  · have hl : ((x.take n.toNat).foldl cmC []).length ≤ 1099511627776 := by
      have h1 := fold_leC (x.take n.toNat) []
      have h2 : (x.take n.toNat).length ≤ x.length := by rw [List.length_take]; exact Nat.min_le_right _ _
      simp only [List.length_nil] at h1
      omega
    simp only [cond_true, Bool.true_and]
    rw [decide_eq_true hl]
    cases decide (1 ≤ q) && decide (q ≤ 8)
    · rfl
    · simp only [cond_true]
      rw [backM_fold, fold_twoC q _ []]
      rfl
theorem chainAtS (k : Nat) (hk : MM < k) (x : List D_Event) (hx : x.length ≤ 1048576) (hb : ∀ e ∈ x, bytesP e.2.2.1) (n q : Int) : spec_ChainAt k x n q = some ((chP x n q, ()), ()) := by
  have hM : MM = 1048576 := rfl
  unfold spec_ChainAt chP
  rw [spec_EventsOk_eq k hk x (by have : M0 = 1048576 := rfl; omega), Option.bind_some]
  dsimp only
  cases he : evsOk x
  case false => rfl
  obtain ⟨h2, h3⟩ := evs_facts he
  simp only [Bool.not_true, Bool.not_false, cond_true, Bool.true_and]
  by_cases h0 : 0 ≤ n
  case neg => rw [decide_eq_true (show n < 0 by omega), decide_eq_false h0]; rfl
  rw [decide_eq_false (show ¬ n < 0 by omega), decide_eq_true h0]
  by_cases hn : n ≤ ((x.length : Nat) : Int)
  case neg => rw [decide_eq_false hn, bif_t (by rfl), decide_eq_true (show ((x.length : Nat) : Int) < n by omega)]; rfl
  rw [decide_eq_true hn, bif_t (by rfl), decide_eq_false (show ¬ ((x.length : Nat) : Int) < n by omega), bif_t (by rfl)]
  by_cases q1 : 1 ≤ q
  case neg => rw [decide_eq_true (show q < 1 by omega), decide_eq_false q1]; rfl
  rw [decide_eq_false (show ¬ q < 1 by omega), decide_eq_true q1, bif_t (by rfl)]
  by_cases q8 : q ≤ 8
  case neg => rw [decide_eq_false q8, bif_t (decide_eq_true (show (8:Int) < q by omega))]; rfl
  rw [decide_eq_true q8, bif_f (decide_eq_false (show ¬ (8:Int) < q by omega)), bif_t (by rfl)]
  obtain ⟨N, hN⟩ : ∃ N : Nat, n = N := ⟨n.toNat, by omega⟩
  subst hN
  rw [Int.toNat_natCast]
  have hl : (x.take N).length = N := by rw [List.length_take]; omega
  have run := thru_run0 (x := x.take N) (step := spec_ChainAt_s5 k) (st := fun i a => ((), x, (N : Int), q, a, (i : Int), ())) (g := fun _ e a => evH q a e) (fin := fun a => ((), a, ())) z_Event (fun i a => a.length ≤ 8)
    (fun i a hi hI rec => by
      rw [hl] at hi
      unfold spec_ChainAt_s5
      dsimp only [Int.toNat_natCast]
      have hm := getD_mem x z_Event i (by omega)
      rw [getD_tkE hi (by omega), readS k hk _ (hb _ hm) (by have := h3 _ hm; omega), w64 (by omega)]
      have c1 : decide ((i : Int) < ((x.length : Nat) : Int)) = true := decide_eq_true (by omega)
      have c2 : decide ((0 : Int) ≤ (i : Int)) = true := decide_eq_true (by omega)
      have c3 : decide (i < x.length) = true := decide_eq_true (by omega)
      have c4 : decide ((i : Int) < (N : Int)) = true := decide_eq_true (by omega)
      obtain ⟨e, hee⟩ : ∃ e, e = x.getD i z_Event := ⟨_, rfl⟩
      simp only [← hee]
      simp only [c1, c2, c3, c4, Bool.and_self, cond_true, Option.bind_some]
      unfold evH lastC
      by_cases h : e.1 = 3
      · rw [decide_eq_true h, if_pos h]
        simp only [cond_true]
        obtain ⟨c, hc⟩ : ∃ c, c = (cmdRd e.2.2.1).1 := ⟨_, rfl⟩
        rw [← hc]
        by_cases g7 : c.1 = 7
        · rw [decide_eq_true g7]
          by_cases gq : c.2.1 = q
          · rw [decide_eq_true gq]; rfl
          · rw [decide_eq_false gq]; rfl
        · rw [decide_eq_false g7]; rfl
      · rw [decide_eq_false h, if_neg h]; rfl)
    (fun i a hi hI => evH_le hI _)
    (fun a hI rec => by
      unfold spec_ChainAt_s5
      exact bif_f (decide_eq_false (by dsimp only; omega))) (k := k) (a := []) (by omega) (by simp)
  rw [show iter (spec_ChainAt_s5 k) k ((), x, (N : Int), q, ([] : List D_Module), (0 : Int), ()) = _ from run, thru_foldl (evH q), Option.bind_some]
  rfl
end Go.Tw
