/- Plain facts on the mirrors of the functions are proved here. -/
import Derived.Test.YtmnfadocihfiaaaGreatPn17
set_option linter.all false
set_option maxRecDepth 100000
set_option maxHeartbeats 4000000
namespace Go.Tw
open Go Sem
theorem flat_lenR : ∀ (ls : List (List D_Rule)) (j : Nat), (ls.take j).flatten.length ≤ ls.flatten.length
  | ls, j => by
    have := congrArg (fun l => (List.flatten l).length) (List.take_append_drop j ls)
    simp only [List.flatten_append, List.length_append] at this
    omega
theorem flat_takeR (ls : List (List D_Rule)) (j : Nat) (h : j < ls.length) : (ls.take (j + 1)).flatten = (ls.take j).flatten ++ ls.getD j [] := by
  rw [List.take_add_one, List.getElem?_eq_getElem h, getD_at ls [] j h]
  simp only [Option.toList_some, List.flatten_append, List.flatten_cons, List.flatten_nil, List.append_nil]
theorem catR (k : Nat) (hk : MM < k) (ls : List (List D_Rule)) (h1 : ls.length ≤ 1000) (h2 : ls.flatten.length ≤ 1000000) : slices_Concat_impl_Rule_impl_Rule k ls = some ((ls.flatten, ()), ()) := by
  have hM : MM = 1048576 := rfl
  obtain ⟨a, ha, r1⟩ := inv_run (step := slices_Concat_impl_Rule_impl_Rule_s3) (n := ls.length) (st := fun j (a : Int) => ((), ls, a, ls, ((ls.length : Nat) : Int), (j : Int), ())) (fin := fun a => ((), ls, a, ())) (fun j a => a = ((ls.take j).flatten.length : Int))
    (fun j a hj hI => by
      refine ⟨((ls.take (j + 1)).flatten.length : Int), rfl, fun rec => ?_⟩
      have hwi : IntKind.wrap .i64 ((j : Int) + 1) = ((j + 1 : Nat) : Int) := w64 (by omega)
      have e := congrArg List.length (flat_takeR ls j hj)
      rw [List.length_append] at e
      have hb := flat_lenR ls (j + 1)
      have hw : IntKind.wrap .i64 (a + ((List.length (ls.getD j []) : Nat) : Int)) = ((ls.take (j + 1)).flatten.length : Int) := by rw [w64 (by omega)]; omega
      unfold slices_Concat_impl_Rule_impl_Rule_s3
      refine (bif_t (by simp; omega)).trans ?_
      refine (bif_t (by simp; omega)).trans ?_
      refine (bif_t (by simp; omega)).trans ?_
      simp only [Int.toNat_natCast, hw, hwi]
      exact bif_f (decide_eq_false (by omega)))
    (fun a hI rec => by
      unfold slices_Concat_impl_Rule_impl_Rule_s3
      exact bif_f (by simp)) ls.length 0 k 0 (by omega) (by omega) (by simp)
  rw [List.take_length] at ha
  obtain ⟨b, hb, r2⟩ := inv_run (step := slices_Concat_impl_Rule_impl_Rule_s11) (n := ls.length) (st := fun j (a : List D_Rule) => ((), a, ls, ((ls.length : Nat) : Int), (j : Int), ())) (fin := fun a => ((), a, ())) (fun j a => a = (ls.take j).flatten)
    (fun j a hj hI => by
      refine ⟨(ls.take (j + 1)).flatten, rfl, fun rec => ?_⟩
      have hwi : IntKind.wrap .i64 ((j : Int) + 1) = ((j + 1 : Nat) : Int) := w64 (by omega)
      have e := flat_takeR ls j hj
      have el := congrArg List.length e
      rw [List.length_append] at el
      have hb := flat_lenR ls (j + 1)
      unfold slices_Concat_impl_Rule_impl_Rule_s11
      refine (bif_t (by simp; omega)).trans ?_
      refine (bif_t (by simp; omega)).trans ?_
      refine (bif_t (by simp; omega)).trans ?_
      simp only [Int.toNat_natCast, hwi]
      refine (bif_t (decide_eq_true (by rw [hI]; omega))).trans ?_
      rw [e, hI])
    (fun a hI rec => by
      unfold slices_Concat_impl_Rule_impl_Rule_s11
      exact bif_f (by simp)) ls.length 0 k [] (by omega) (by omega) (by simp)
  rw [List.take_length] at hb
  subst ha hb
  have hw : IntKind.wrap .i64 ((ls.flatten.length : Int) - 0) = (ls.flatten.length : Int) := by rw [w64 (by omega)]; omega
  obtain ⟨F, hF⟩ : ∃ F, F = ls.flatten := ⟨_, rfl⟩
  rw [← hF] at hw h2 r1 r2 ⊢
  unfold slices_Concat_impl_Rule_impl_Rule
  refine (congrArg (fun o => Option.bind o _) r1).trans ?_
  simp only [Option.bind_some, hw]
  refine (bif_f (decide_eq_false (by omega))).trans ?_
  by_cases h0 : 0 < F.length
  · refine (bif_t (decide_eq_true (by omega))).trans ((bif_t (Bool.and_eq_true_iff.2 ⟨decide_eq_true (by omega), decide_eq_true (by omega)⟩)).trans ((bif_t (decide_eq_true (by omega))).trans ?_))
    exact (congrArg (fun o => Option.bind o _) r2).trans rfl
  · refine (bif_f (decide_eq_false (by omega))).trans ?_
    exact (congrArg (fun o => Option.bind o _) r2).trans rfl
theorem sch_find {α O : Type} {p : α → Bool} {z : α} {x : List α} {f : Nat → O} {fin : O} : ∀ (m i : Nat), i + m = x.length → sch (fun i => bif p (x.getD i z) then some (f i) else none) fin m i = if (x.drop i).findIdx p < m then f (i + (x.drop i).findIdx p) else fin
  | 0, i, h => by simp [sch]
  | m + 1, i, h => by
    simp only [sch]
    rw [drop_at x z i (by omega), List.findIdx_cons]
    cases g : p (x.getD i z)
    · simp only [cond_false]
      rw [sch_find m (i + 1) (by omega)]
      by_cases q : (x.drop (i + 1)).findIdx p < m
      · rw [if_pos q, if_pos (by omega)]; congr 1; omega
      · rw [if_neg q, if_neg (by omega)]
    · simp only [cond_true]
      rw [if_pos (by omega)]; rfl
def fAt (l : List D_Rule) (n : Int) : Nat := l.findIdx fun r => decide (r.1 = n)
theorem ruleAtI (k : Nat) (hk : MM < k) (l : List D_Rule) (hl : l.length ≤ 1000) (n : Int) : impl_ruleAt k l n = some (((if fAt l n < l.length then ((fAt l n : Nat) : Int) else -1), ()), ()) := by
  have hM : MM = 1048576 := rfl
  unfold impl_ruleAt slices_IndexFunc_impl_Rule_impl_Rule
  have run := search_run (step := slices_IndexFunc_impl_Rule_impl_Rule_s2) (st := fun i => ((), l, (n, ()), ((l.length : Nat) : Int), (i : Int), ())) (n := l.length) (hit := fun i => bif decide ((l.getD i z_Rule).1 = n) then some (Sum.inl ((), (i : Int), ())) else none) (fin := Sum.inr ((), ())) (fun i hi rec => by
      unfold slices_IndexFunc_impl_Rule_impl_Rule_s2 impl_ruleAt_1
      dsimp only [Int.toNat_natCast]
      rw [bif_t (decide_eq_true (by omega)), bif_t (Bool.and_eq_true_iff.2 ⟨decide_eq_true (by omega), decide_eq_true (by omega)⟩), bif_t (decide_eq_true (by omega)), Option.bind_some, w64 (by omega)]
      cases decide ((l.getD i z_Rule).1 = n) <;> rfl) (fun rec => by
      unfold slices_IndexFunc_impl_Rule_impl_Rule_s2
      exact bif_f (decide_eq_false (by dsimp only; omega))) l.length 0 k (by omega) (by omega)
  rw [show iter (slices_IndexFunc_impl_Rule_impl_Rule_s2) k ((), l, (n, ()), (((List.length l) : Nat) : Int), (0 : Int), ()) = _ from run, sch_find (p := fun r : D_Rule => decide (r.1 = n)) l.length 0 (by omega)]
  rw [List.drop_zero, Nat.zero_add]
  unfold fAt
  by_cases h : List.findIdx (fun r : D_Rule => decide (r.1 = n)) l < l.length
  · rw [if_pos h, if_pos h]; rfl
  · rw [if_neg h, if_neg h]; rfl
def addR (l : List D_Rule) (r : D_Rule) : List D_Rule × Int :=
  bif rsB l && ruleB r then
    (if fAt l r.1 < l.length then ([], 2) else if l.length = 32 then ([], 3)
     else ((l.filter fun e => decide (e.1 < r.1)) ++ ([r] ++ l.filter fun e => decide (r.1 < e.1)), 0))
  else ([], 1)
def drpR (l : List D_Rule) (n : Int) : List D_Rule × Int :=
  bif rsB l then (if fAt l n < l.length then (l.filter fun e => !decide (e.1 = n), 0) else ([], 4)) else ([], 1)
theorem fAt_none {l : List D_Rule} {n : Int} (h : ¬ fAt l n < l.length) : ∀ e ∈ l, e.1 ≠ n := by
  intro e he q
  exact h (List.findIdx_lt_length.2 ⟨e, he, decide_eq_true q⟩)
theorem getD_tk {l : List D_Rule} {i j : Nat} (h : j < i) (hl : j < l.length) : (l.take i)[j]? = some (l.getD j z_Rule) := by
  rw [List.getElem?_take_of_lt h, List.getElem?_eq_getElem hl, getD_at l z_Rule j hl]
theorem mem_tk {l : List D_Rule} {i : Nat} {e : D_Rule} (h : e ∈ l.take i) : ∃ j, j < i ∧ j < l.length ∧ e = l.getD j z_Rule := by
  obtain ⟨j, hj, rfl⟩ := List.mem_iff_getElem.1 h
  rw [List.length_take] at hj
  refine ⟨j, by omega, by omega, ?_⟩
  rw [List.getElem_take, getD_at l z_Rule j (by omega)]
theorem mem_dr {l : List D_Rule} {i : Nat} {e : D_Rule} (h : e ∈ l.drop i) : ∃ j, i ≤ j ∧ j < l.length ∧ e = l.getD j z_Rule := by
  obtain ⟨j, hj, rfl⟩ := List.mem_iff_getElem.1 h
  rw [List.length_drop] at hj
  refine ⟨i + j, by omega, by omega, ?_⟩
  rw [List.getElem_drop, getD_at l z_Rule (i + j) (by omega)]
theorem filt_split {l : List D_Rule} {i : Nat} {p : D_Rule → Bool} (h1 : ∀ e ∈ l.take i, p e = true) (h2 : ∀ e ∈ l.drop i, p e = false) : l.filter p = l.take i := by
  have := congrArg (List.filter p) (List.take_append_drop i l)
  rw [List.filter_append, List.filter_eq_self.2 h1, List.filter_eq_nil_iff.2 (fun e he => by rw [h2 e he]; simp), List.append_nil] at this
  exact this.symm
theorem filt_split' {l : List D_Rule} {i : Nat} {p : D_Rule → Bool} (h1 : ∀ e ∈ l.take i, p e = false) (h2 : ∀ e ∈ l.drop i, p e = true) : l.filter p = l.drop i := by
  have := congrArg (List.filter p) (List.take_append_drop i l)
  rw [List.filter_append, List.filter_eq_self.2 h2, List.filter_eq_nil_iff.2 (fun e he => by rw [h1 e he]; simp), List.nil_append] at this
  exact this.symm
def pAt (l : List D_Rule) (n : Int) : Nat := l.findIdx fun e => !decide (e.1 < n)
theorem pAt_le (l : List D_Rule) (n : Int) : pAt l n ≤ l.length := List.findIdx_le_length
theorem pAt_lt {l : List D_Rule} {n : Int} {j : Nat} (h : j < pAt l n) (hl : j < l.length) : (l.getD j z_Rule).1 < n := by
  have := List.not_of_lt_findIdx (p := fun e : D_Rule => !decide (e.1 < n)) h
  rw [getD_at l z_Rule j hl]
  simpa using this
theorem pAt_ge {l : List D_Rule} {n : Int} (h : pAt l n < l.length) : n ≤ (l.getD (pAt l n) z_Rule).1 := by
  have := List.findIdx_getElem (p := fun e : D_Rule => !decide (e.1 < n)) (w := h)
  rw [getD_at l z_Rule _ h]
  simp at this
  exact this
theorem add_split {l : List D_Rule} {n : Int} (hs : rsB l = true) (hn : ¬ fAt l n < l.length) : (l.filter fun e => decide (e.1 < n)) = l.take (pAt l n) ∧ (l.filter fun e => decide (n < e.1)) = l.drop (pAt l n) := by
  obtain ⟨_, srt⟩ := rs_sort hs
  have hne := fAt_none hn
  have hge : ∀ e ∈ l.drop (pAt l n), n < e.1 := by
    intro e he
    obtain ⟨j, h1, h2, rfl⟩ := mem_dr he
    have a := pAt_ge (l := l) (n := n) (by omega)
    have b : (l.getD (pAt l n) z_Rule).1 ≤ (l.getD j z_Rule).1 := by
      rcases Nat.lt_or_ge (pAt l n) j with g | g
      · have := srt _ _ g h2; omega
      · have : j = pAt l n := by omega
        rw [this]; omega
    have c := hne _ (getD_mem l z_Rule j h2)
    omega
  have hlt : ∀ e ∈ l.take (pAt l n), e.1 < n := by
    intro e he
    obtain ⟨j, h1, h2, rfl⟩ := mem_tk he
    exact pAt_lt h1 h2
  refine ⟨filt_split (fun e he => decide_eq_true (hlt e he)) (fun e he => decide_eq_false (by have := hge e he; omega)), filt_split' (fun e he => decide_eq_false (by have := hlt e he; omega)) (fun e he => decide_eq_true (hge e he))⟩
theorem drp_split {l : List D_Rule} {n : Int} (hs : rsB l = true) (hn : fAt l n < l.length) : (l.filter fun e => !decide (e.1 = n)) = l.take (fAt l n) ++ l.drop (fAt l n + 1) := by
  obtain ⟨_, srt⟩ := rs_sort hs
  have e0 : (l.getD (fAt l n) z_Rule).1 = n := by
    have := List.findIdx_getElem (p := fun e : D_Rule => decide (e.1 = n)) (w := hn)
    rw [getD_at l z_Rule _ hn]
    simp at this
    exact this
  have hl : l = l.take (fAt l n) ++ (l.getD (fAt l n) z_Rule :: l.drop (fAt l n + 1)) := by
    rw [← drop_at l z_Rule _ hn, List.take_append_drop]
  have h1 : ∀ e ∈ l.take (fAt l n), (!decide (e.1 = n)) = true := by
    intro e he
    obtain ⟨j, h1, h2, rfl⟩ := mem_tk he
    have := srt _ _ h1 hn
    rw [decide_eq_false (by omega)]; rfl
  have h2 : ∀ e ∈ l.drop (fAt l n + 1), (!decide (e.1 = n)) = true := by
    intro e he
    obtain ⟨j, h1, h2, rfl⟩ := mem_dr he
    have := srt (fAt l n) j (by omega) h2
    rw [decide_eq_false (by omega)]; rfl
  have q := congrArg (List.filter fun e => !decide (e.1 = n)) hl
  rw [List.filter_append, List.filter_cons, List.filter_eq_self.2 h1, List.filter_eq_self.2 h2, decide_eq_true e0] at q
  simpa using q
theorem addI (k : Nat) (hk : MM < k) (l : List D_Rule) (hl : l.length ≤ 1000) (r : D_Rule) : impl_RuleAdd k l r = some (((addR l r).1, (addR l r).2, ()), ()) := by
  have hM : MM = 1048576 := rfl
  unfold impl_RuleAdd addR
  rw [rsI k hk l hl, Option.bind_some]
  dsimp only
  cases hs : rsB l
  case false => rfl
  simp only [Bool.not_true, Bool.not_false, cond_true, Bool.true_and]
  rw [ruleI k hk, Option.bind_some]
  dsimp only
  cases ruleB r
  case false => rfl
  simp only [Bool.not_true, cond_false, cond_true]
  rw [ruleAtI k hk l hl, Option.bind_some]
  dsimp only
  by_cases hf : fAt l r.1 < l.length
  · rw [if_pos hf, if_pos hf, bif_t (decide_eq_true (by omega))]
  rw [if_neg hf, if_neg hf, bif_f (decide_eq_false (by omega))]
  by_cases h32 : l.length = 32
  · rw [if_pos h32, bif_t (decide_eq_true (by omega))]
  rw [if_neg h32, bif_f (decide_eq_false (by omega))]
  have run := search_run (step := impl_RuleAdd_s8) (st := fun i => ((), l, r, (i : Int), ())) (n := l.length) (hit := fun i => bif !decide ((l.getD i z_Rule).1 < r.1) then some ((), l, r, (i : Int), ()) else none) (fin := ((), l, r, ((l.length : Nat) : Int), ())) (fun i hi rec => by
      unfold impl_RuleAdd_s8
      dsimp only [Int.toNat_natCast]
      rw [bif_t (decide_eq_true (by omega)), bif_t (Bool.and_eq_true_iff.2 ⟨decide_eq_true (by omega), decide_eq_true (by omega)⟩), bif_t (decide_eq_true (by omega)), w64 (by omega)]
      cases decide ((l.getD i z_Rule).1 < r.1) <;> rfl) (fun rec => by
      unfold impl_RuleAdd_s8
      exact bif_f (decide_eq_false (by dsimp only; omega))) l.length 0 k (by omega) (by omega)
  rw [show iter (impl_RuleAdd_s8) k ((), l, r, (0 : Int), ()) = _ from run, sch_find (p := fun e : D_Rule => !decide (e.1 < r.1)) l.length 0 (by omega)]
  rw [List.drop_zero, Nat.zero_add]
  have hp := pAt_le l r.1
  have e : (if List.findIdx (fun e : D_Rule => !decide (e.1 < r.1)) l < l.length then ((), l, r, ((List.findIdx (fun e : D_Rule => !decide (e.1 < r.1)) l : Nat) : Int), ()) else ((), l, r, ((l.length : Nat) : Int), ())) = ((), l, r, ((pAt l r.1 : Nat) : Int), ()) := by
    by_cases q : pAt l r.1 < l.length
    · exact if_pos q
    · have : pAt l r.1 = l.length := by omega
      rw [this]; exact if_neg q
  rw [e, Option.bind_some]
  dsimp only [Int.toNat_natCast]
  rw [bif_t (Bool.and_eq_true_iff.2 ⟨decide_eq_true (by omega), decide_eq_true (by omega)⟩), bif_t (Bool.and_eq_true_iff.2 ⟨Bool.and_eq_true_iff.2 ⟨decide_eq_true (by omega), decide_eq_true (by omega)⟩, decide_eq_true (by omega)⟩), List.take_of_length_le (i := l.length - pAt l r.1) (l := l.drop (pAt l r.1)) (by rw [List.length_drop]; omega)]
  rw [catR k hk _ (by simp) (by simp; omega)]
  obtain ⟨s1, s2⟩ := add_split hs hf
  rw [s1, s2]
  simp only [Option.bind_some, List.flatten_cons, List.flatten_nil, List.append_nil]
theorem dropI (k : Nat) (hk : MM < k) (l : List D_Rule) (hl : l.length ≤ 1000) (n : Int) : impl_RuleDrop k l n = some (((drpR l n).1, (drpR l n).2, ()), ()) := by
  unfold impl_RuleDrop drpR
  rw [ruleAtI k hk l hl, Option.bind_some, rsI k hk l hl, Option.bind_some]
  dsimp only
  cases hs : rsB l
  case false => rfl
  simp only [Bool.not_true, cond_false, cond_true]
  by_cases hf : fAt l n < l.length
  case neg =>
    rw [if_neg hf, if_neg hf, bif_t (decide_eq_true (by omega))]
  rw [if_pos hf, if_pos hf, bif_f (decide_eq_false (by omega)), bif_t (Bool.and_eq_true_iff.2 ⟨decide_eq_true (by omega), decide_eq_true (by omega)⟩), w64 (by omega), show ((fAt l n : Nat) : Int) + 1 = ((fAt l n + 1 : Nat) : Int) by omega]
  simp only [Int.toNat_natCast]
  rw [bif_t (Bool.and_eq_true_iff.2 ⟨Bool.and_eq_true_iff.2 ⟨decide_eq_true (by omega), decide_eq_true (by omega)⟩, decide_eq_true (by omega)⟩), List.take_of_length_le (i := l.length - (fAt l n + 1)) (l := l.drop (fAt l n + 1)) (by rw [List.length_drop]; omega)]
  rw [catR k hk _ (by simp) (by simp; omega), drp_split hs hf]
  simp only [Option.bind_some, List.flatten_cons, List.flatten_nil, List.append_nil]
end Go.Tw
