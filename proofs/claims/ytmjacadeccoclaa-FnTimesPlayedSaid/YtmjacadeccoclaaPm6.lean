/- Plain facts on the mirrors of the functions are proved here. -/
import Derived.Test.YtmjacadeccoclaaPm5
set_option linter.all false
namespace Go.Tw
open Go Go.RowKit

def sameId (l : List D_Job) (j : D_Job) : Bool := l.any fun e => decide (e.1 = j.1)
def putOk (x : D_Line) (j : D_Job) : Bool := lineI x && (nA j && (idOk j && (!sameId ((x.2.1 ++ x.2.2.1) ++ x.2.2.2.1) j && !decide (((((x.2.1 ++ x.2.2.1) ++ x.2.2.2.1).length : Nat) : Int) = x.1))))
def addJ (x : D_Line) (j : D_Job) : D_Line := (x.1, x.2.1 ++ [j], x.2.2)
theorem spec13_eq (v : D_Vec) : spec_l13All v 1 1000 = some ((one v.1 && (one v.2.1 && one v.2.2.1), ()), ()) := by
  unfold spec_l13All one
  generalize decide (1 ≤ v.1) = b1
  generalize decide (v.1 ≤ 1000) = b2
  generalize decide (1 ≤ v.2.1) = b3
  generalize decide (v.2.1 ≤ 1000) = b4
  generalize decide (1 ≤ v.2.2.1) = b5
  generalize decide (v.2.2.1 ≤ 1000) = b6
  cases b1 <;> cases b2 <;> cases b3 <;> cases b4 <;> cases b5 <;> cases b6 <;> rfl
theorem specCost_eq (e : D_Job) : spec_CostOk e.2.1 = some ((nA e, ()), ()) := by
  unfold spec_CostOk nA
  rw [spec13_eq]; rfl
theorem specSame_run (k : Nat) (hk : MM < k) (x : D_Line) (j : D_Job) (z : D_Line) (l : List D_Job) (hl : l.length ≤ 1048576) :
    iter spec_LinePut_s5 k ((), x, j, z, l, (0 : Int), ()) = some (bif sameId l j then Sum.inl ((), ((0 : Int), ([] : List D_Job), ([] : List D_Job), ([] : List D_Job), ()), (2 : Int), ()) else Sum.inr ((), x, j, z, l, ())) := by
  have hM : MM = 1048576 := rfl
  have run := search_run (step := spec_LinePut_s5) (st := fun i => ((), x, j, z, l, (i : Int), ())) (n := l.length) (hit := fun i => bif decide ((l.getD i z_Job).1 = j.1) then some (Sum.inl ((), ((0 : Int), ([] : List D_Job), ([] : List D_Job), ([] : List D_Job), ()), (2 : Int), ())) else none) (fin := Sum.inr ((), x, j, z, l, ())) (fun i hi rec => by
      unfold spec_LinePut_s5
      rw [bif_t (by simp; omega), bif_t (by simp; omega), bif_t (by simp; omega)]
      rw [w64 (n := (i : Int) + 1) (by omega)]
      show (bif decide ((l.getD i z_Job).1 = j.1) then _ else _) = _
      generalize decide ((l.getD i z_Job).1 = j.1) = b
      cases b <;> rfl) (fun rec => by
      unfold spec_LinePut_s5
      rw [bif_f (by simp)]) l.length 0 k (by omega) (by omega)
  rw [show iter spec_LinePut_s5 k ((), x, j, z, l, (0 : Int), ()) = _ from run]
  unfold sameId
  rcases sch_any (x := l) (z := z_Job) (p := fun e => decide (e.1 = j.1)) (f := fun _ => (Sum.inl ((), ((0 : Int), ([] : List D_Job), ([] : List D_Job), ([] : List D_Job), ()), (2 : Int), ()) : (Unit × (D_Line × (Int × Unit))) ⊕ (Unit × (D_Line × (D_Job × (D_Line × ((List D_Job) × Unit))))))) (fin := Sum.inr ((), x, j, z, l, ())) with ⟨h1, q, _, h2⟩ | ⟨h1, h2⟩
  · rw [h2, h1]; rfl
  · rw [h2, h1]; rfl
theorem implSame_eq (k : Nat) (hk : MM < k) (l : List D_Job) (hl : l.length ≤ 1048576) (j : D_Job) : slices_ContainsFunc_impl_Job_impl_Job k l (j, ()) = some ((sameId l j, ()), ()) := by
  have hM : MM = 1048576 := rfl
  have run := search_run (step := slices_IndexFunc_impl_Job_impl_Job_s2) (st := fun i => ((), l, (j, ()), (((List.length l) : Nat) : Int), (i : Int), ())) (n := l.length) (hit := fun i => bif decide ((l.getD i z_Job).1 = j.1) then some (Sum.inl ((), (i : Int), ())) else none) (fin := Sum.inr ((), ())) (fun i hi rec => by
      unfold slices_IndexFunc_impl_Job_impl_Job_s2
      rw [bif_t (by simp; omega), bif_t (by simp; omega), bif_t (by simp; omega)]
      rw [w64 (n := (i : Int) + 1) (by omega)]
      show ((impl_LinePut_1 (l.getD i z_Job) j).bind fun t1 => _) = _
      simp only [impl_LinePut_1, Option.bind_some]
      generalize decide ((l.getD i z_Job).1 = j.1) = b
      cases b <;> rfl) (fun rec => by
      unfold slices_IndexFunc_impl_Job_impl_Job_s2
      rw [bif_f (by simp)]) l.length 0 k (by omega) (by omega)
  unfold slices_ContainsFunc_impl_Job_impl_Job slices_IndexFunc_impl_Job_impl_Job
  rw [show iter slices_IndexFunc_impl_Job_impl_Job_s2 k ((), l, (j, ()), (((List.length l) : Nat) : Int), (0 : Int), ()) = _ from run]
  unfold sameId
  rcases sch_any (x := l) (z := z_Job) (p := fun e => decide (e.1 = j.1)) (f := fun i => (Sum.inl ((), (i : Int), ()) : (Unit × (Int × Unit)) ⊕ (Unit × Unit))) (fin := Sum.inr ((), ())) with ⟨h1, q, _, h2⟩ | ⟨h1, h2⟩
  · rw [h2, h1]; simp
  · rw [h2, h1]; simp
theorem same_perm {l l' : List D_Job} (h : l.Perm l') (j : D_Job) : sameId l j = sameId l' j := by
  unfold sameId
  rw [Bool.eq_iff_iff, List.any_eq_true, List.any_eq_true]
  simp only [h.mem_iff]
theorem specPut_eq (k : Nat) (hk : MM < k) (x : D_Line) (h : fits x) (j : D_Job) : ∃ y c, spec_LinePut k x j = some ((y, c, ()), ()) ∧ (putOk x j = true → c = 0 ∧ y = addJ x j) ∧ (putOk x j = false → c ≠ 0) := by
  obtain ⟨h1, h2, h3⟩ := h
  have hp : ((x.2.2.2.1 ++ x.2.2.1) ++ x.2.1).Perm ((x.2.1 ++ x.2.2.1) ++ x.2.2.2.1) := by
    refine List.perm_append_comm.trans ?_
    rw [List.append_assoc]
    exact List.Perm.append_left _ List.perm_append_comm
  unfold spec_LinePut putOk
  rw [specOk_eq k hk x ⟨h1, h2, h3⟩, ← line_eq, Option.bind_some]
  cases g1 : lineI x with
  | false => exact ⟨_, _, rfl, by simp, by simp⟩
  | true =>
    have hs := lineP_small ((lineI_iff x).1 g1)
    simp only [Bool.not_true, Bool.not_false, cond_true, Bool.true_and, specCost_eq, Option.bind_some]
    cases g2 : nA j with
    | false => exact ⟨_, _, rfl, by simp, by simp⟩
    | true =>
      simp only [Bool.not_true, Bool.not_false, cond_true, Bool.true_and]
      unfold idOk
      by_cases g3 : 0 ≤ j.1
      · by_cases g4 : j.1 ≤ 1000000000000
        · rw [bif_t (by simp; omega), bif_f (by simp; omega), all_eq x ⟨h1, h2, h3⟩, Option.bind_some]
          rw [specSame_run k hk x j _ _ (by simp; omega), same_perm hp j]
          simp only [g3, g4, decide_true, Bool.and_self, Bool.true_and, Option.bind_some]
          cases g5 : sameId ((x.2.1 ++ x.2.2.1) ++ x.2.2.2.1) j with
          | true => exact ⟨_, _, rfl, by simp, by simp⟩
          | false =>
            simp only [cond_false, Sum.elim_inr, Bool.not_false, Bool.true_and]
            have hlen : (((((x.2.2.2.1 ++ x.2.2.1) ++ x.2.1).length : Nat) : Int)) = ((((x.2.1 ++ x.2.2.1) ++ x.2.2.2.1).length : Nat) : Int) := by rw [hp.length_eq]
            rw [hlen]
            cases g6 : decide (((((x.2.1 ++ x.2.2.1) ++ x.2.2.2.1).length : Nat) : Int) = x.1) with
            | true => exact ⟨_, _, rfl, by simp, by simp⟩
            | false =>
              simp only [cond_false]
              rw [specCopy_eq x ⟨h1, h2, h3⟩, Option.bind_some]
              refine ⟨addJ x j, 0, ?_, by simp, by simp⟩
              rw [bif_t (by simp; omega)]
              rfl
        · rw [bif_t (by simp; omega), bif_t (by simp; omega)]
          exact ⟨_, _, rfl, by simp [g4], by simp⟩
      · rw [bif_f (by simp; omega)]
        exact ⟨_, _, rfl, by simp [g3], by simp⟩
theorem implPut_eq (k : Nat) (hk : MM < k) (x : D_Line) (h : fits x) (j : D_Job) : ∃ y c, impl_LinePut k x j = some ((y, c, ()), ()) ∧ (putOk x j = true → c = 0 ∧ y = addJ x j) ∧ (putOk x j = false → c ≠ 0) := by
  obtain ⟨h1, h2, h3⟩ := h
  unfold impl_LinePut putOk
  rw [implOk_eq k hk x ⟨h1, h2, h3⟩, Option.bind_some]
  cases g1 : lineI x with
  | false => exact ⟨_, _, rfl, by simp, by simp⟩
  | true =>
    have hs := lineP_small ((lineI_iff x).1 g1)
    simp only [Bool.not_true, Bool.not_false, cond_true, Bool.true_and, costOk_eq, Option.bind_some, within_eq]
    cases g2 : nA j with
    | false => exact ⟨_, _, rfl, by simp, by simp⟩
    | true =>
      simp only [Bool.not_true, Bool.not_false, cond_true, Bool.true_and]
      unfold idOk
      cases g3 : (decide (0 ≤ j.1) && decide (j.1 ≤ 1000000000000)) with
      | false => exact ⟨_, _, rfl, by simp, by simp⟩
      | true =>
        simp only [Bool.not_true, cond_false, Bool.true_and]
        rw [jobs_eq k hk x ⟨h1, h2, h3⟩]
        simp only [Option.bind_some]
        rw [implSame_eq k hk _ (by simp; omega) j]
        simp only [Option.bind_some]
        cases g5 : sameId ((x.2.1 ++ x.2.2.1) ++ x.2.2.2.1) j with
        | true => exact ⟨_, _, rfl, by simp, by simp⟩
        | false =>
          simp only [cond_false, Bool.not_false, Bool.true_and]
          cases g6 : decide (((((x.2.1 ++ x.2.2.1) ++ x.2.2.2.1).length : Nat) : Int) = x.1) with
          | true => exact ⟨_, _, rfl, by simp, by simp⟩
          | false =>
            simp only [cond_false]
            rw [copy_eq x ⟨by omega, by omega, by omega⟩, Option.bind_some]
            refine ⟨addJ x j, 0, ?_, by simp, by simp⟩
            rw [bif_t (by simp; omega)]
            rfl
end Go.Tw
