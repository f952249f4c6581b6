/- Plain facts on the mirrors of the functions are proved here. -/
import Derived.Test.YtmjacadeccoclaaPv0
set_option linter.all false
namespace Go.Tw
open Go Go.RowKit

theorem walk_any {α O : Type} (p : α → Bool) (g : Nat → O) (fin : O) : ∀ (l : List α) (i : Nat), (l.any p = true ∧ ∃ j, walk (A := Unit) (fun i e a => bif p e then .inl (g i) else .inr a) (fun _ => fin) l i () = g j) ∨ (l.any p = false ∧ walk (A := Unit) (fun i e a => bif p e then .inl (g i) else .inr a) (fun _ => fin) l i () = fin)
  | [], i => .inr ⟨rfl, rfl⟩
  | e :: l, i => by
    simp only [walk, List.any_cons]
    cases hp : p e with
    | true => exact .inl ⟨rfl, i, rfl⟩
    | false =>
      rcases walk_any p g fin l (i + 1) with ⟨h1, j, h2⟩ | ⟨h1, h2⟩
      · exact .inl ⟨h1, j, h2⟩
      · exact .inr ⟨h1, h2⟩
theorem timers_eq (k : Nat) (hk : MM < k) (w : D_Wheel) (hl : w.2.1.length ≤ 1048576) (hs : sumW w.2.1 ≤ 1048576) : impl_Wheel_timers k w = some ((flatW w, ()), ()) := by
  have hM : MM = 1048576 := rfl
  unfold impl_Wheel_timers
  have run := thru_run0 (step := impl_Wheel_timers_s3) (x := w.2.1) z_Spoke (st := fun j a => ((), a, w.2.1, ((w.2.1.length : Nat) : Int), (j : Int), ())) (g := fun _ s a => a ++ s.1) (fin := fun a => ((), a, ())) (fun j a => a = (w.2.1.take j).flatMap (·.1))
    (fun j a hj hI rec => by
      unfold impl_Wheel_timers_s3
      refine (bif_t (by simp; omega)).trans ?_
      refine (bif_t (by simp; omega)).trans ?_
      refine (bif_t (by simp; omega)).trans ?_
      have h1 : (a ++ (w.2.1.getD j z_Spoke).1).length ≤ sumW w.2.1 := by
        have := sub_flatW w.2.1 (j + 1)
        rw [List.take_add_one, getD_at w.2.1 z_Spoke j hj] at *
        simp only [List.getElem?_eq_getElem hj, Option.toList_some, List.flatMap_append, List.flatMap_cons, List.flatMap_nil, List.append_nil] at this
        rw [hI]; exact this
      rw [List.length_append] at h1
      have h2 : (a.length + (w.2.1.getD (j : Int).toNat z_Spoke).1.length) * 16 ≤ 1099511627776 := by
        have : (w.2.1.getD (j : Int).toNat z_Spoke).1.length = (w.2.1.getD j z_Spoke).1.length := rfl
        omega
      refine (bif_t (decide_eq_true h2)).trans ?_
      have hwi : IntKind.wrap .i64 ((j : Int) + 1) = ((j + 1 : Nat) : Int) := w64 (by omega)
      show rec ((), a ++ (w.2.1.getD j z_Spoke).1, w.2.1, ((w.2.1.length : Nat) : Int), IntKind.wrap .i64 ((j : Int) + 1), ()) = _
      rw [hwi])
    (fun j a hj hI => by
      rw [hI, List.take_add_one, getD_at w.2.1 z_Spoke j hj]
      simp only [List.getElem?_eq_getElem hj, Option.toList_some, List.flatMap_append, List.flatMap_cons, List.flatMap_nil, List.append_nil]) (fun a _ rec => by
      unfold impl_Wheel_timers_s3
      exact bif_f (by simp)) (k := k) (by omega) (a := []) (by simp)
  refine (congrArg (fun o => Option.bind o _) run).trans ?_
  rw [thru_flat]
  rfl
def hasB (w : D_Wheel) (id : Int) : Bool := (flatW w).any (idB id)
theorem flat_le (w : D_Wheel) : (flatW w).length = sumW w.2.1 := sumW_flat _
theorem hasSpec_eq (k : Nat) (hk : MM < k) (w : D_Wheel) (hl : w.2.1.length ≤ 1048576) (hs : sumW w.2.1 ≤ 1048576) (id : Int) : spec_l12Has k w id = some ((hasB w id, ()), ()) := by
  have hM : MM = 1048576 := rfl
  have hfl := flat_le w
  unfold spec_l12Has
  rw [all_run k hk w hl hs]
  have run := walk_run0 (step := spec_l12Has_s3) (x := flatW w) z_Timer (st := fun i (_ : Unit) => ((), id, flatW w, (i : Int), ())) (f := fun _ e a => bif idB id e then .inl (Sum.inl ((), true, ())) else .inr a) (fin := fun _ => Sum.inr ((), ())) (fun _ _ => True)
    (fun i a hi _ rec => by
      unfold spec_l12Has_s3
      refine (bif_t (by simp; omega)).trans ?_
      refine (bif_t (by simp; omega)).trans ?_
      refine (bif_t (by simp; omega)).trans ?_
      have hwi : IntKind.wrap .i64 ((i : Int) + 1) = ((i + 1 : Nat) : Int) := w64 (by omega)
      unfold idB
      simp only [hwi]
      show (bif decide (((flatW w).getD i z_Timer).1 = id) then _ else _) = _
      generalize decide (((flatW w).getD i z_Timer).1 = id) = b
      cases b <;> rfl) (fun _ _ _ _ _ _ => trivial) (fun a _ rec => by
      unfold spec_l12Has_s3
      exact bif_f (by simp)) (k := k) (by omega) (a := ()) trivial
  simp only [Option.bind_some]
  refine (congrArg (fun o => Option.bind o _) run).trans ?_
  unfold hasB
  rcases walk_any (idB id) (fun _ => (Sum.inl ((), true, ()) : (Unit × Bool × Unit) ⊕ (Unit × Unit))) (Sum.inr ((), ())) (flatW w) 0 with ⟨h1, j, h2⟩ | ⟨h1, h2⟩
  · rw [h1, h2]; rfl
  · rw [h1, h2]; rfl
theorem hasImpl_eq (k : Nat) (hk : MM < k) (w : D_Wheel) (hl : w.2.1.length ≤ 1048576) (hs : sumW w.2.1 ≤ 1048576) (id : Int) : impl_Wheel_hasTimer k w id = some ((hasB w id, ()), ()) := by
  have hM : MM = 1048576 := rfl
  have hfl := flat_le w
  unfold impl_Wheel_hasTimer
  rw [timers_eq k hk w hl hs]
  simp only [Option.bind_some]
  unfold slices_ContainsFunc_impl_Timer_impl_Timer slices_IndexFunc_impl_Timer_impl_Timer_2
  have run := walk_run0 (step := slices_IndexFunc_impl_Timer_impl_Timer_2_s2) (x := flatW w) z_Timer (st := fun i (_ : Unit) => ((), flatW w, (id, ()), (((flatW w).length : Nat) : Int), (i : Int), ())) (f := fun i e a => bif idB id e then .inl (Sum.inl ((), (i : Int), ())) else .inr a) (fin := fun _ => Sum.inr ((), ())) (fun _ _ => True)
    (fun i a hi _ rec => by
      unfold slices_IndexFunc_impl_Timer_impl_Timer_2_s2
      refine (bif_t (by simp; omega)).trans ?_
      refine (bif_t (by simp; omega)).trans ?_
      refine (bif_t (by simp; omega)).trans ?_
      have hwi : IntKind.wrap .i64 ((i : Int) + 1) = ((i + 1 : Nat) : Int) := w64 (by omega)
      unfold idB impl_Wheel_hasTimer_1
      simp only [Option.bind_some, hwi]
      show (bif decide (((flatW w).getD i z_Timer).1 = id) then _ else _) = _
      generalize decide (((flatW w).getD i z_Timer).1 = id) = b
      cases b <;> rfl) (fun _ _ _ _ _ _ => trivial) (fun a _ rec => by
      unfold slices_IndexFunc_impl_Timer_impl_Timer_2_s2
      exact bif_f (by simp)) (k := k) (by omega) (a := ()) trivial
  simp only
  rw [show iter slices_IndexFunc_impl_Timer_impl_Timer_2_s2 k ((), flatW w, (id, ()), (((flatW w).length : Nat) : Int), (0 : Int), ()) = _ from run]
  unfold hasB
  rcases walk_any (idB id) (fun i => (Sum.inl ((), (i : Int), ()) : (Unit × Int × Unit) ⊕ (Unit × Unit))) (Sum.inr ((), ())) (flatW w) 0 with ⟨h1, j, h2⟩ | ⟨h1, h2⟩
  · rw [h1, h2]; simp
  · rw [h1, h2]; simp
/-! the next time -/
def nextT (l : List D_Timer) : Int := thru (fun _ e a => bif (!decide (a < 0)) then (bif decide (e.2.1 < a) then e.2.1 else a) else e.2.1) l 0 (-1)
def nextW (w : D_Wheel) : Int := bif wheelI w then nextT (flatW w) else -1
theorem nextSpec_eq (k : Nat) (hk : MM < k) (w : D_Wheel) (hw : fitW w) : spec_WheelNext k w = some ((nextW w, ()), ()) := by
  have hM : MM = 1048576 := rfl
  unfold spec_WheelNext
  rw [specOk_eq k hk w hw, wheel_eq]
  unfold nextW
  simp only [Option.bind_some]
  cases h : wheelI w with
  | false => rfl
  | true =>
    have P := (wheelI_iff w).1 h
    have hs : sumW w.2.1 ≤ 1048576 := by have := P.sum; omega
    have hfl := flat_le w
    rw [all_run k hk w hw.1 hs]
    have run := thru_run0 (step := spec_WheelNext_s6) (x := flatW w) z_Timer (st := fun i a => ((), flatW w, a, (i : Int), ())) (g := fun _ e a => bif (!decide (a < 0)) then (bif decide (e.2.1 < a) then e.2.1 else a) else e.2.1) (fin := fun a => ((), a, ())) (fun _ _ => True)
      (fun i a hi _ rec => by
        unfold spec_WheelNext_s6
        refine (bif_t (by simp; omega)).trans ?_
        have c1 : (decide ((0 : Int) ≤ (i : Int)) && decide ((i : Int) < (((flatW w).length : Nat) : Int))) = true := by simp; omega
        have c2 : decide ((i : Int).toNat < (flatW w).length) = true := decide_eq_true (by omega)
        have hwi : IntKind.wrap .i64 ((i : Int) + 1) = ((i + 1 : Nat) : Int) := w64 (by omega)
        obtain ⟨e, he⟩ : ∃ e, e = (flatW w).getD (i : Int).toNat z_Timer := ⟨_, rfl⟩
        have he' : e = (flatW w).getD i z_Timer := he
        simp only [c1, c2, cond_true, hwi, ← he, ← he']
        cases decide (a < 0) with
        | true => rfl
        | false =>
          simp only [Bool.not_false, cond_true]
          cases decide (e.2.1 < a) <;> rfl) (fun _ _ _ _ => trivial) (fun a _ rec => by
        unfold spec_WheelNext_s6
        exact bif_f (by simp)) (k := k) (by omega) (a := -1) trivial
    simp only [Bool.not_true, cond_false, Option.bind_some]
    refine (congrArg (fun o => Option.bind o _) run).trans ?_
    rfl
theorem nextImpl_eq (k : Nat) (hk : MM < k) (w : D_Wheel) (hw : fitW w) : impl_WheelNext k w = some ((nextW w, ()), ()) := by
  have hM : MM = 1048576 := rfl
  unfold impl_WheelNext
  rw [implOk_eq k hk w hw]
  unfold nextW
  simp only [Option.bind_some]
  cases h : wheelI w with
  | false => rfl
  | true =>
    have P := (wheelI_iff w).1 h
    have hs : sumW w.2.1 ≤ 1048576 := by have := P.sum; omega
    have hfl := flat_le w
    rw [timers_eq k hk w hw.1 hs]
    have run := thru_run0 (step := impl_WheelNext_s5) (x := flatW w) z_Timer (st := fun i a => ((), a, flatW w, (((flatW w).length : Nat) : Int), (i : Int), ())) (g := fun _ e a => bif (!decide (a < 0)) then (bif decide (e.2.1 < a) then e.2.1 else a) else e.2.1) (fin := fun a => ((), a, ())) (fun _ _ => True)
      (fun i a hi _ rec => by
        unfold impl_WheelNext_s5
        refine (bif_t (by simp; omega)).trans ?_
        have c1 : (decide ((0 : Int) ≤ (i : Int)) && decide ((i : Int) < (((flatW w).length : Nat) : Int))) = true := by simp; omega
        have c2 : decide ((i : Int).toNat < (flatW w).length) = true := decide_eq_true (by omega)
        have hwi : IntKind.wrap .i64 ((i : Int) + 1) = ((i + 1 : Nat) : Int) := w64 (by omega)
        obtain ⟨e, he⟩ : ∃ e, e = (flatW w).getD (i : Int).toNat z_Timer := ⟨_, rfl⟩
        have he' : e = (flatW w).getD i z_Timer := he
        simp only [c1, c2, cond_true, hwi, ← he, ← he']
        cases decide (a < 0) with
        | true => rfl
        | false =>
          simp only [Bool.not_false, cond_true]
          cases decide (e.2.1 < a) <;> rfl) (fun _ _ _ _ => trivial) (fun a _ rec => by
        unfold impl_WheelNext_s5
        exact bif_f (by simp)) (k := k) (by omega) (a := -1) trivial
    simp only [Bool.not_true, cond_false, Option.bind_some]
    refine (congrArg (fun o => Option.bind o _) run).trans ?_
    rfl
end Go.Tw
