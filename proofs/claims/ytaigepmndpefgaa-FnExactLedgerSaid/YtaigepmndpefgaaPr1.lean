/- Plain facts on the mirrors of the functions are proved here. -/
import Derived.Test.YtaigepmndpefgaaPr0
import Derived.Test.YtaigepmndpefgaaPf4
set_option linter.all false
namespace Go.Tw
open Go Go.RowKit

/-! the two lists, joined -/
theorem catI2 (k : Nat) (hk : MM < k) (a b : List Int) (h1 : a.length ≤ 10000) (h2 : b.length ≤ 10000) : slices_Concat_int k [a, b] = some ((a ++ b, ()), ()) := by
  have hM : MM = 1048576 := rfl
  obtain ⟨k', rfl⟩ : ∃ k', k = k' + 3 := ⟨k - 3, by omega⟩
  have hw1 : IntKind.wrap .i64 ((0 : Int) + (a.length : Int)) = ((a.length : Nat) : Int) := by rw [w64 (by omega)]; omega
  have hw2 : IntKind.wrap .i64 ((a.length : Int) + (b.length : Int)) = ((a.length + b.length : Nat) : Int) := by rw [w64 (by omega)]; omega
  have n1 : decide (((a.length : Nat) : Int) < 0) = false := by simp
  have n2 : decide (((a.length + b.length : Nat) : Int) < 0) = false := by simp; omega
  have c1 : decide ((0 + a.length) * 8 ≤ 1099511627776) = true := by simp; omega
  have c2 : decide ((a.length + b.length) * 8 ≤ 1099511627776) = true := by simp; omega
  have r1 : iter slices_Concat_int_s3 (k' + 3) ((), [a, b], (0 : Int), [a, b], (((2 : Nat)) : Int), (0 : Int), ()) = some ((), [a, b], (((a.length + b.length : Nat)) : Int), ()) := by
    rw [show k' + 3 = (k' + 1 + 1) + 1 from rfl, iter_succ]
    show (bif decide (IntKind.wrap .i64 ((0 : Int) + (a.length : Int)) < 0) then none else iter slices_Concat_int_s3 (k' + 1 + 1) ((), [a, b], IntKind.wrap .i64 ((0 : Int) + (a.length : Int)), [a, b], (((2 : Nat)) : Int), (1 : Int), ())) = _
    rw [hw1, n1, cond_false, iter_succ]
    show (bif decide (IntKind.wrap .i64 ((a.length : Int) + (b.length : Int)) < 0) then none else iter slices_Concat_int_s3 (k' + 1) ((), [a, b], IntKind.wrap .i64 ((a.length : Int) + (b.length : Int)), [a, b], (((2 : Nat)) : Int), (2 : Int), ())) = _
    rw [hw2, n2, cond_false, iter_succ]
    rfl
  have r2 : iter slices_Concat_int_s11 (k' + 3) ((), ([] : List Int), [a, b], (((2 : Nat)) : Int), (0 : Int), ()) = some ((), a ++ b, ()) := by
    rw [show k' + 3 = (k' + 1 + 1) + 1 from rfl, iter_succ]
    show (bif decide ((0 + a.length) * 8 ≤ 1099511627776) then iter slices_Concat_int_s11 (k' + 1 + 1) ((), a, [a, b], (((2 : Nat)) : Int), (1 : Int), ()) else none) = _
    rw [c1, cond_true, iter_succ]
    show (bif decide ((a.length + b.length) * 8 ≤ 1099511627776) then iter slices_Concat_int_s11 (k' + 1) ((), a ++ b, [a, b], (((2 : Nat)) : Int), (2 : Int), ()) else none) = _
    rw [c2, cond_true, iter_succ]
    rfl
  unfold slices_Concat_int
  rw [show iter slices_Concat_int_s3 (k' + 3) ((), [a, b], (0 : Int), [a, b], (((List.length [a, b]) : Nat) : Int), (0 : Int), ()) = _ from r1]
  simp only [Option.bind_some]
  have hw : IntKind.wrap .i64 (((a.length + b.length : Nat) : Int) - 0) = ((a.length + b.length : Nat) : Int) := by rw [w64 (by omega)]; omega
  rw [bif_f (by simp; omega), hw]
  by_cases h0 : 0 < a.length + b.length
  · rw [bif_t (by simp; omega), bif_t (by simp; omega), bif_t (by simp; omega)]
    rw [show iter slices_Concat_int_s11 (k' + 3) ((), List.take (0 : Nat) _, [a, b], (((List.length [a, b]) : Nat) : Int), (0 : Int), ()) = _ from r2]
    rfl
  · rw [bif_f (by simp; omega)]
    rw [show iter slices_Concat_int_s11 (k' + 3) ((), ([] : List Int), [a, b], (((List.length [a, b]) : Nat) : Int), (0 : Int), ()) = _ from r2]
    rfl
def overB (o : D_Out) : Bool := decide (o.1 = 1) || decide (o.1 = 2)
def overL (x : List D_Out) : List Int := (x.filter overB).map fun o => o.2.1
theorem overL_len (x : List D_Out) : (overL x).length ≤ x.length := by unfold overL; rw [List.length_map]; exact List.length_filter_le _ _
theorem over_len {j : Nat} {o : D_Out} {a : List Int} (h : a.length ≤ 10000 + j) : (bif overB o then a ++ [o.2.1] else a).length ≤ 10000 + (j + 1) := by
  cases overB o <;> simp <;> omega
theorem implOver (k : Nat) (hk : MM < k) (n : Int) (x : List D_Out) (hx : x.length ≤ 10000) (a : List Int) (ha : a.length ≤ 10000) :
    iter impl_Ledger_s5 k ((), n, a, x, ((x.length : Nat) : Int), (0 : Int), ()) = some ((), n, a ++ overL x, ()) := by
  have hM : MM = 1048576 := rfl
  have run := thru_run0 (step := impl_Ledger_s5) (x := x) z_Out (st := fun j (a : List Int) => ((), n, a, x, ((x.length : Nat) : Int), (j : Int), ())) (g := fun _ o a => bif overB o then a ++ [o.2.1] else a) (fin := fun a => ((), n, a, ())) (fun j a => a.length ≤ 10000 + j)
    (fun j a hj hI rec => by
      have hwi : IntKind.wrap .i64 ((j : Int) + 1) = ((j + 1 : Nat) : Int) := w64 (by omega)
      have c1 : decide ((a.length + 1) * 8 ≤ 1099511627776) = true := decide_eq_true (by omega)
      unfold impl_Ledger_s5
      refine (bif_t (by simp; omega)).trans ?_
      refine (bif_t (by simp; omega)).trans ?_
      refine (bif_t (by simp; omega)).trans ?_
      obtain ⟨o, ho⟩ : ∃ o, o = x.getD (j : Int).toNat z_Out := ⟨_, rfl⟩
      have ho' : o = x.getD j z_Out := ho
      simp only [← ho, ← ho']
      unfold overB
      cases decide (o.1 = 1) <;> cases decide (o.1 = 2) <;> simp only [Bool.not_true, Bool.not_false, cond_true, cond_false, Bool.or_true, Bool.or_false, Bool.true_or, Bool.false_or, c1, hwi])
    (fun j a hj hI => over_len hI) (fun a _ rec => by
      unfold impl_Ledger_s5
      exact bif_f (by simp)) (k := k) (by omega) (a := a) (by omega)
  rw [thru_map] at run
  exact run
theorem specOver (k : Nat) (hk : MM < k) (n : Int) (x : List D_Out) (hx : x.length ≤ 10000) (l : D_Left) :
    iter spec_Ledger_s5 k ((), n, x, l, ([] : List Int), (0 : Int), ()) = some ((), n, l, overL x, ()) := by
  have hM : MM = 1048576 := rfl
  have run := thru_run0 (step := spec_Ledger_s5) (x := x) z_Out (st := fun j (a : List Int) => ((), n, x, l, a, (j : Int), ())) (g := fun _ o a => bif overB o then a ++ [o.2.1] else a) (fin := fun a => ((), n, l, a, ())) (fun j a => a.length ≤ 10000 + j)
    (fun j a hj hI rec => by
      have hwi : IntKind.wrap .i64 ((j : Int) + 1) = ((j + 1 : Nat) : Int) := w64 (by omega)
      have c1 : decide ((a.length + 1) * 8 ≤ 1099511627776) = true := decide_eq_true (by omega)
      have c2 : (decide ((0 : Int) ≤ (j : Int)) && decide ((j : Int) < ((x.length : Nat) : Int))) = true := by simp; omega
      have c3 : decide ((j : Int).toNat < x.length) = true := decide_eq_true hj
      unfold spec_Ledger_s5
      refine (bif_t (by simp; omega)).trans ?_
      refine (bif_t (by simp; omega)).trans ?_
      refine (bif_t (by simp; omega)).trans ?_
      obtain ⟨o, ho⟩ : ∃ o, o = x.getD (j : Int).toNat z_Out := ⟨_, rfl⟩
      have ho' : o = x.getD j z_Out := ho
      simp only [← ho, ← ho']
      unfold overB
      cases decide (o.1 = 1) <;> cases decide (o.1 = 2) <;> simp only [Bool.not_true, Bool.not_false, cond_true, cond_false, Bool.or_true, Bool.or_false, Bool.true_or, Bool.false_or, c1, c2, c3, hwi])
    (fun j a hj hI => over_len hI) (fun a _ rec => by
      unfold spec_Ledger_s5
      exact bif_f (by simp)) (k := k) (by omega) (a := []) (by simp)
  rw [thru_map] at run
  exact run
theorem specBad (k : Nat) (hk : MM < k) (n : Int) (l : List Int) (hl : l.length ≤ 30000) :
    iter spec_Ledger_s11 k ((), n, l, (0 : Int), ()) = some (bif l.any (badI n) then Sum.inl ((), (1 : Int), ()) else Sum.inr ((), n, l, ())) := by
  have hM : MM = 1048576 := rfl
  have run := search_run (step := spec_Ledger_s11) (st := fun i => ((), n, l, (i : Int), ())) (n := l.length) (hit := fun i => bif badI n (l.getD i 0) then some (Sum.inl ((), (1 : Int), ())) else none) (fin := Sum.inr ((), n, l, ())) (fun i hi rec => by
      unfold spec_Ledger_s11
      have hwi : IntKind.wrap .i64 ((i : Int) + 1) = ((i + 1 : Nat) : Int) := w64 (by omega)
      have c2 : (decide ((0 : Int) ≤ (i : Int)) && decide ((i : Int) < ((l.length : Nat) : Int))) = true := by simp; omega
      have c3 : decide ((i : Int).toNat < l.length) = true := decide_eq_true hi
      refine (bif_t (by simp; omega)).trans ?_
      refine (bif_t (by simp; omega)).trans ?_
      refine (bif_t (by simp; omega)).trans ?_
      obtain ⟨e, he⟩ : ∃ e, e = l.getD (i : Int).toNat (0 : Int) := ⟨_, rfl⟩
      have he' : e = l.getD i (0 : Int) := he
      simp only [← he, ← he']
      unfold badI
      cases decide (e < 0) <;> cases decide (n ≤ e) <;> simp only [Bool.not_true, Bool.not_false, cond_true, cond_false, Bool.or_true, Bool.or_false, Bool.true_or, Bool.false_or, c2, c3, hwi, Option.elim]) (fun rec => by
      unfold spec_Ledger_s11
      exact bif_f (by simp)) l.length 0 k (by omega) (by omega)
  refine run.trans ?_
  rcases sch_any (x := l) (z := (0 : Int)) (p := badI n) (f := fun _ => (Sum.inl ((), (1 : Int), ()) : (Unit × (Int × Unit)) ⊕ (Unit × (Int × (List Int × Unit))))) (fin := Sum.inr ((), n, l, ())) with ⟨h1, j, _, h2⟩ | ⟨h1, h2⟩
  · rw [h2, h1]; rfl
  · rw [h2, h1]; rfl
def timesN (n : Nat) (l : List Int) : List Int := (List.range n).map fun i => (ct l i : Int)
theorem timesN_len (n : Nat) (l : List Int) : (timesN n l).length = n := by simp [timesN]
theorem timesN_at (n : Nat) (l : List Int) (i : Nat) (h : i < n) : (timesN n l).getD i 0 = (ct l i : Int) := by
  rw [getD_at _ _ _ (by rw [timesN_len]; exact h)]; simp [timesN]
theorem timesN_nil (n : Nat) : timesN n [] = List.replicate n 0 := by
  apply List.ext_getElem
  · simp [timesN]
  · intro i h1 h2; simp [timesN, ct]
theorem timesN_snoc (n : Nat) (l : List Int) (a : Int) (h : badI n a = false) : timesN n (l ++ [a]) = (timesN n l).set a.toNat ((ct l a.toNat : Int) + 1) := by
  simp only [badI, Bool.or_eq_false_iff, decide_eq_false_iff_not] at h
  apply List.ext_getElem
  · simp [timesN]
  · intro i h1 h2
    simp only [timesN, List.getElem_map, List.getElem_range, List.getElem_set, ct, List.count_append, List.count_singleton]
    by_cases e : a.toNat = i
    · have : a = (i : Int) := by omega
      rw [if_pos e, e]
      simp [this]
    · have : ¬ a = (i : Int) := by omega
      rw [if_neg e]
      simp [this]
theorem ct_le (l : List Int) (i : Nat) : ct l i ≤ l.length := List.count_le_length
theorem specTimes (k : Nat) (hk : MM < k) (n : Nat) (l : List Int) (hl : l.length ≤ 30000) (hb : ∀ a ∈ l, badI n a = false) :
    iter spec_Ledger_s17 k ((), (n : Int), l, List.replicate n (0 : Int), (0 : Int), ()) = some ((), (n : Int), timesN n l, ()) := by
  have hM : MM = 1048576 := rfl
  obtain ⟨T, hT, run⟩ := inv_run (step := spec_Ledger_s17) (n := l.length) (st := fun j (T : List Int) => ((), (n : Int), l, T, (j : Int), ())) (fin := fun T => ((), (n : Int), T, ())) (fun j T => T = timesN n (l.take j))
    (fun j T hj hI => by
      refine ⟨timesN n (l.take (j + 1)), rfl, fun rec => ?_⟩
      obtain ⟨a, ha⟩ : ∃ a, a = l.getD j (0 : Int) := ⟨_, rfl⟩
      have ha2 : a = l.getD (j : Int).toNat (0 : Int) := ha
      have hab := hb a (by rw [ha]; exact getD_mem l (0 : Int) j hj)
      have hab2 := hab
      simp only [badI, Bool.or_eq_false_iff, decide_eq_false_iff_not] at hab2
      have hwi : IntKind.wrap .i64 ((j : Int) + 1) = ((j + 1 : Nat) : Int) := w64 (by omega)
      have htl : T.length = n := by rw [hI, timesN_len]
      have hat : T.getD a.toNat 0 = (ct (l.take j) a.toNat : Int) := by rw [hI]; exact timesN_at _ _ _ (by omega)
      have hcl : ct (l.take j) a.toNat ≤ 30000 := Nat.le_trans (ct_le _ _) (by rw [List.length_take]; omega)
      have hw : IntKind.wrap .i64 ((ct (l.take j) a.toNat : Int) + 1) = (ct (l.take j) a.toNat : Int) + 1 := w64 (by omega)
      have c1 : (decide ((0 : Int) ≤ a) && decide (a < ((T.length : Nat) : Int))) = true := by simp; omega
      have c2 : decide (a.toNat < T.length) = true := decide_eq_true (by omega)
      have hsn : timesN n (l.take (j + 1)) = T.set a.toNat ((ct (l.take j) a.toNat : Int) + 1) := by
        rw [hI, ← timesN_snoc n _ a hab, List.take_add_one, List.getElem?_eq_getElem hj, ha, getD_at l 0 j hj]; rfl
      unfold spec_Ledger_s17
      refine (bif_t (by simp; omega)).trans ?_
      refine (bif_t (by simp; omega)).trans ?_
      refine (bif_t (by simp; omega)).trans ?_
      simp only [← ha2, c1, c2, cond_true, hat, hw, hwi, hsn])
    (fun T hI rec => by
      unfold spec_Ledger_s17
      exact bif_f (by simp)) l.length 0 k (List.replicate n 0) (by omega) (by omega) (by rw [List.take_zero, timesN_nil])
  rw [List.take_length] at hT
  subst hT
  exact run
theorem walk_two : ∀ (r : List Int) (i : Nat) (c : Int), walk (fun _ (t : Int) c => bif decide (1 < t) then Sum.inl (Sum.inl ((), (2 : Int), ()) : (Unit × (Int × Unit)) ⊕ (Unit × (Int × Unit))) else Sum.inr (bif decide (t = 0) then (3 : Int) else c)) (fun c => Sum.inr ((), c, ())) r i c =
    bif r.any (fun t => decide (1 < t)) then Sum.inl ((), 2, ()) else Sum.inr ((), bif r.any (fun t => decide (t = 0)) then 3 else c, ())
  | [], i, c => rfl
  | t :: r, i, c => by
    simp only [walk, List.any_cons]
    cases decide (1 < t) with
    | true => rfl
    | false =>
      simp only [cond_false, Sum.elim_inr, Bool.false_or]
      rw [walk_two r]
      cases decide (t = 0) <;> cases r.any (fun t => decide (1 < t)) <;> cases r.any (fun t => decide (t = 0)) <;> rfl
theorem specCode (k : Nat) (hk : MM < k) (n : Nat) (T : List Int) (hT : T.length = n) (hn : n ≤ 30000) :
    iter spec_Ledger_s22 k ((), (n : Int), T, (0 : Int), (0 : Int), ()) = some (bif T.any (fun t => decide (1 < t)) then Sum.inl ((), 2, ()) else Sum.inr ((), bif T.any (fun t => decide (t = 0)) then 3 else 0, ())) := by
  have hM : MM = 1048576 := rfl
  have run := walk_run0 (step := spec_Ledger_s22) (x := T) (0 : Int) (st := fun j (c : Int) => ((), (n : Int), T, c, (j : Int), ())) (f := fun _ (t : Int) c => bif decide (1 < t) then Sum.inl (Sum.inl ((), (2 : Int), ()) : (Unit × (Int × Unit)) ⊕ (Unit × (Int × Unit))) else Sum.inr (bif decide (t = 0) then (3 : Int) else c)) (fin := fun c => Sum.inr ((), c, ())) (fun _ _ => True)
    (fun j c hj _ rec => by
      have hwi : IntKind.wrap .i64 ((j : Int) + 1) = ((j + 1 : Nat) : Int) := w64 (by omega)
      have c2 : (decide ((0 : Int) ≤ (j : Int)) && decide ((j : Int) < ((T.length : Nat) : Int))) = true := by simp; omega
      have c3 : decide ((j : Int).toNat < T.length) = true := decide_eq_true hj
      unfold spec_Ledger_s22
      refine (bif_t (decide_eq_true (show (j : Int) < (n : Int) by omega))).trans ?_
      refine (bif_t (by simp; omega)).trans ?_
      refine (bif_t (by simp; omega)).trans ?_
      obtain ⟨t, ht⟩ : ∃ t, t = T.getD (j : Int).toNat (0 : Int) := ⟨_, rfl⟩
      have ht' : t = T.getD j (0 : Int) := ht
      simp only [← ht, ← ht']
      cases decide (1 < t) <;> cases decide (t = 0) <;> simp only [cond_true, cond_false, c2, c3, hwi, Sum.elim_inl, Sum.elim_inr])
    (fun _ _ _ _ _ _ => trivial) (fun c _ rec => by
      unfold spec_Ledger_s22
      exact bif_f (decide_eq_false (show ¬ ((T.length : Nat) : Int) < (n : Int) by omega))) (k := k) (by omega) (a := (0 : Int)) trivial
  rw [walk_two] at run
  exact run
theorem any_times (n : Nat) (l : List Int) (p : Int → Bool) (q : Nat → Bool) (h : ∀ c : Nat, p (c : Int) = q c) : (timesN n l).any p = anyN (fun i => q (ct l i)) n 0 := by
  rw [Bool.eq_iff_iff, anyN_iff, List.any_eq_true]
  constructor
  · rintro ⟨t, ht, hp⟩
    simp only [timesN, List.mem_map, List.mem_range] at ht
    obtain ⟨i, hi, rfl⟩ := ht
    exact ⟨i, by omega, by omega, by rw [← h]; exact hp⟩
  · rintro ⟨i, _, hi, hq⟩
    refine ⟨_, List.mem_map.2 ⟨i, List.mem_range.2 (by omega), rfl⟩, ?_⟩
    rw [h]; exact hq
def fewB (x : List D_Out) (l : D_Left) : Bool := decide (((x.length : Nat) : Int) ≤ 2000) && (decide (((l.2.1.length : Nat) : Int) ≤ 2000) && decide (((l.2.2.1.length : Nat) : Int) ≤ 2000))
def ledV (n : Int) (x : List D_Out) (l : D_Left) : Int :=
  bif (decide (0 ≤ n) && decide (n ≤ 2000)) && fewB x l then ledR n.toNat ((l.2.1 ++ l.2.2.1) ++ overL x) else -1
theorem implLedger (k : Nat) (hk : MM < k) (n : Int) (x : List D_Out) (l : D_Left) : impl_Ledger k n x l = some ((ledV n x l, ()), ()) := by
  have hM : MM = 1048576 := rfl
  unfold impl_Ledger impl_within impl_areShort
  by_cases hn : 0 ≤ n ∧ n ≤ 2000
  case neg =>
    have : (decide (0 ≤ n) && decide (n ≤ 2000)) = false := by simpa using hn
    unfold ledV
    rw [this]
    revert this
    cases decide (0 ≤ n) <;> cases decide (n ≤ 2000) <;> simp
  by_cases hf : fewB x l = true
  case neg =>
    have hf : fewB x l = false := by simpa using hf
    unfold ledV
    rw [hf, Bool.and_false]
    simp only [hn.1, hn.2, decide_true, cond_true, Option.bind_some, Bool.not_true, Bool.not_false]
    revert hf
    unfold fewB
    cases decide (((x.length : Nat) : Int) ≤ 2000) <;> cases decide (((l.2.1.length : Nat) : Int) ≤ 2000) <;> cases decide (((l.2.2.1.length : Nat) : Int) ≤ 2000) <;> simp
  have hv : ledV n x l = ledR n.toNat ((l.2.1 ++ l.2.2.1) ++ overL x) := by
    unfold ledV; rw [hf]; simp [hn.1, hn.2]
  unfold fewB at hf
  simp only [Bool.and_eq_true, decide_eq_true_eq] at hf
  obtain ⟨f1, f2, f3⟩ := hf
  obtain ⟨ids, hids⟩ : ∃ ids, ids = (l.2.1 ++ l.2.2.1) ++ overL x := ⟨_, rfl⟩
  have ho := overL_len x
  have hlen : ids.length ≤ 6000 := by rw [hids]; simp only [List.length_append]; omega
  have hover := implOver k hk n x (by omega) (l.2.1 ++ l.2.2.1) (by simp only [List.length_append]; omega)
  simp only [hn.1, hn.2, f1, f2, f3, decide_true, cond_true, Option.bind_some, Bool.not_true, Bool.not_false, cond_false, catI2 k hk l.2.1 l.2.2.1 (by omega) (by omega), hover]
  rw [hv, ← hids]
  have hs : sortC ids = some ((), (sortI ids, ())) := by unfold sortC sortM; exact bif_t (decide_eq_true (by simp only; omega))
  rw [hs]
  simp only [Option.bind_some]
  obtain ⟨s, hs⟩ : ∃ s, s = sortI ids := ⟨_, rfl⟩
  have hsl : s.length = ids.length := by rw [hs, sortI_len]
  have hpw : s.Pairwise (· ≤ ·) := by rw [hs]; exact sortI_le ids
  have hperm : s.Perm ids := by rw [hs]; exact sortI_perm ids
  have hR : ledR n.toNat ids = ledR n.toNat s := (ledR_perm hperm).symm
  rw [hR, ledR_eq, ← hs]
  have hnn : ((n.toNat : Nat) : Int) = n := Int.toNat_of_nonneg hn.1
  have hcl : slices_Clone_int s = some ((s, ()), ()) := by unfold slices_Clone_int; exact bif_t (decide_eq_true (by omega))
  have hcp : compactC s = some ((cpI s, ()), (s, ())) := by unfold compactC compactM; exact bif_t (decide_eq_true (by simp only; omega))
  have hd := cpI_dup hpw
  have hln : decide (((s.length : Nat) : Int) < n) = decide (s.length < n.toNat) := by
    rw [Bool.eq_iff_iff]; simp only [decide_eq_true_eq]; omega
  by_cases h0 : 0 < s.length
  · have hwl : IntKind.wrap .i64 (((s.length : Nat) : Int) - 1) = ((s.length - 1 : Nat) : Int) := by rw [w64 (by omega)]; omega
    have c0 : decide ((0 : Int) < ((s.length : Nat) : Int)) = true := by simp; omega
    have c1 : decide ((0 : Nat) < s.length) = true := by simp; omega
    have c2 : (decide ((0 : Int) ≤ ((s.length - 1 : Nat) : Int)) && decide (((s.length - 1 : Nat) : Int) < ((s.length : Nat) : Int))) = true := by simp; omega
    have c3 : decide (s.length - 1 < s.length) = true := by simp; omega
    rw [sorted_bad (n := ((n.toNat : Nat) : Int)) hpw h0, hnn]
    simp only [c0, c1, c2, c3, cond_true, hwl, Int.toNat_natCast, hcl, hcp, Option.bind_some, hd, hln]
    cases decide (s.getD 0 (0 : Int) < 0) <;> cases decide (n ≤ s.getD (s.length - 1) (0 : Int)) <;> cases decide s.Nodup <;> cases decide (s.length < n.toNat) <;> rfl
  · have hnil : s = [] := List.length_eq_zero_iff.1 (by omega)
    have c0 : decide ((0 : Int) < ((s.length : Nat) : Int)) = false := by simp; omega
    have ha : s.any (badI ((n.toNat : Nat) : Int)) = false := by rw [hnil]; rfl
    rw [ha]
    simp only [c0, cond_false, hcl, hcp, Option.bind_some, hd, hln]
    cases decide s.Nodup <;> cases decide (s.length < n.toNat) <;> rfl
theorem specLedger (k : Nat) (hk : MM < k) (n : Int) (x : List D_Out) (l : D_Left) : spec_Ledger k n x l = some ((ledV n x l, ()), ()) := by
  have hM : MM = 1048576 := rfl
  have lt1 : ∀ a : Int, decide (2000 < a) = !decide (a ≤ 2000) := fun a => by rw [leN]
  unfold spec_Ledger spec_l24Few
  simp only [Option.bind_some, Bool.not_not, leN, lt1]
  by_cases hc : ((decide (0 ≤ n) && decide (n ≤ 2000)) && fewB x l) = true
  case neg =>
    have hc : ((decide (0 ≤ n) && decide (n ≤ 2000)) && fewB x l) = false := by simpa using hc
    unfold ledV
    rw [hc]
    revert hc
    unfold fewB
    cases decide (0 ≤ n) <;> cases decide (n ≤ 2000) <;> cases decide (((x.length : Nat) : Int) ≤ 2000) <;> cases decide (((l.2.1.length : Nat) : Int) ≤ 2000) <;> cases decide (((l.2.2.1.length : Nat) : Int) ≤ 2000) <;> simp
  have hv : ledV n x l = ledR n.toNat ((l.2.1 ++ l.2.2.1) ++ overL x) := by unfold ledV; rw [hc]; rfl
  unfold fewB at hc
  simp only [Bool.and_eq_true, decide_eq_true_eq] at hc
  obtain ⟨⟨n1, n2⟩, f1, f2, f3⟩ := hc
  obtain ⟨m, rfl⟩ : ∃ m : Nat, n = (m : Int) := ⟨n.toNat, by omega⟩
  have ho := overL_len x
  obtain ⟨ids, hids⟩ : ∃ ids, ids = (overL x ++ l.2.1) ++ l.2.2.1 := ⟨_, rfl⟩
  have hlen : ids.length ≤ 6000 := by rw [hids]; simp only [List.length_append]; omega
  have hp : ((l.2.1 ++ l.2.2.1) ++ overL x).Perm ids := by
    rw [hids, List.append_assoc (overL x)]
    exact List.perm_append_comm
  have g1 : decide (((overL x).length + l.2.1.length) * 8 ≤ 1099511627776) = true := decide_eq_true (by omega)
  have g2 : decide (((overL x ++ l.2.1).length + l.2.2.1.length) * 8 ≤ 1099511627776) = true := decide_eq_true (by simp only [List.length_append]; omega)
  simp only [n1, n2, f1, f2, f3, decide_true, cond_true, Bool.not_true, Bool.not_false, cond_false, specOver k hk _ x (by omega) l, Option.bind_some, g1, g2]
  rw [hv, ledR_perm hp, ← hids]
  simp only [Int.toNat_natCast]
  rw [specBad k hk _ ids (by omega)]
  unfold ledR
  cases hb : ids.any (badI (m : Int)) with
  | true => rfl
  | false =>
    have hb' : ∀ a ∈ ids, badI m a = false := fun a ha => by
      have := List.any_eq_false.1 hb a ha
      simpa using this
    have c4 : ((decide ((0 : Int) ≤ (m : Int)) && decide ((m : Int) ≤ (m : Int))) && decide ((8 : Int) * (m : Int) ≤ 1099511627776)) = true := by simp; omega
    simp only [cond_false, Option.bind_some, Sum.elim_inr, c4, cond_true, Int.toNat_natCast, specTimes k hk m ids (by omega) hb', specCode k hk m (timesN m ids) (timesN_len _ _) (by omega)]
    rw [any_times m ids (fun t => decide (1 < t)) (fun c => decide (1 < c)) (fun c => by rw [Bool.eq_iff_iff]; simp only [decide_eq_true_eq]; omega), any_times m ids (fun t => decide (t = 0)) (fun c => decide (c = 0)) (fun c => by rw [Bool.eq_iff_iff]; simp only [decide_eq_true_eq]; omega)]
    cases anyN (fun i => decide (1 < ct ids i)) m 0 <;> cases anyN (fun i => decide (ct ids i = 0)) m 0 <;> rfl
theorem law_FnExactLedger (n : Int) (x : List D_Out) (l : D_Left) (h0 : WF (.int .i64) n) (h1 : WF (.sl T_Out) x) (h2 : WF T_Left l) : ∃ k y, laws_FnExactLedger k n x l = some ((true, ()), y) := by
  have hk : MM < (1048577 : Nat) := by decide
  refine ⟨1048577, (), ?_⟩
  revert hk
  generalize (1048577 : Nat) = k
  intro hk
  unfold laws_FnExactLedger
  obtain ⟨n1, a1, _, a3, a4⟩ := laws_szOutS_bd k hk x MM h1 (by decide) (by decide)
  rw [a1, Option.bind_some]
  by_cases hn1 : n1 < 0
  · rw [bif_t (by simpa using hn1)]
  rw [bif_f (by simpa using hn1)]
  have b1 := a4 (by omega)
  obtain ⟨n2, c1, _, c3, c4⟩ := laws_szLeft_bd l n1 h2 (by omega) (by omega)
  simp only
  rw [c1, Option.bind_some]
  by_cases hn2 : n2 < 0
  · rw [bif_t (by simpa using hn2)]
  rw [bif_f (by simpa using hn2)]
  have b2 := c4 (by omega)
  simp only [laws_toOutS_ok k hk x b1, laws_toLeft_ok k hk l b2, laws_eqOutS_ok k hk x b1, laws_eqLeft_ok k hk l b2, implLedger k hk, specLedger k hk, Option.bind_some]
  simp
end Go.Tw
