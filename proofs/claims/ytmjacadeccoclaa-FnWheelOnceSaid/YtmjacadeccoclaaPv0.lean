/- Plain facts on the mirrors of the functions are proved here. -/
import Derived.Test.YtmjacadeccoclaaPw9
set_option linter.all false
namespace Go.Tw
open Go Go.RowKit

def idB (t : Int) (e : D_Timer) : Bool := decide (e.1 = t)
theorem del_run_2 (k : Nat) (hk : MM < k) (t : Int) (l : List D_Timer) (hl : l.length ≤ 1048576) : slices_DeleteFunc_impl_Timer_impl_Timer_2 k l (t, ()) = some ((l.filter (fun e => !idB t e), ()), ([], ())) := by
  have hM : MM = 1048576 := rfl
  have hidx : slices_IndexFunc_impl_Timer_impl_Timer_3 k l (t, ()) = some ((sch (fun i => bif idB t (l.getD i z_Timer) then some (i : Int) else none) (-1) l.length 0, ()), ()) := by
    unfold slices_IndexFunc_impl_Timer_impl_Timer_3
    have run := search_run (step := slices_IndexFunc_impl_Timer_impl_Timer_3_s2) (st := fun i => ((), l, (t, ()), ((l.length : Nat) : Int), (i : Int), ())) (n := l.length) (hit := fun i => bif idB t (l.getD i z_Timer) then some (Sum.inl ((), (i : Int), ())) else none) (fin := Sum.inr ((), ())) (fun i hi rec => by
      unfold slices_IndexFunc_impl_Timer_impl_Timer_3_s2
      refine (bif_t (by simp; omega)).trans ?_
      refine (bif_t (by simp; omega)).trans ?_
      refine (bif_t (by simp; omega)).trans ?_
      have hwi : IntKind.wrap .i64 ((i : Int) + 1) = ((i + 1 : Nat) : Int) := w64 (by omega)
      unfold idB impl_WheelSet_1
      simp only [Option.bind_some, hwi]
      obtain ⟨e, he⟩ : ∃ e, e = l.getD (i : Int).toNat z_Timer := ⟨_, rfl⟩
      have he' : e = l.getD i z_Timer := he
      show (bif decide ((l.getD i z_Timer).1 = t) then _ else _) = _
      generalize decide ((l.getD i z_Timer).1 = t) = b
      cases b <;> rfl) (fun rec => by
      unfold slices_IndexFunc_impl_Timer_impl_Timer_3_s2
      exact bif_f (by simp)) l.length 0 k (by omega) (by omega)
    refine (congrArg (fun o => Option.bind o _) run).trans ?_
    have : ∀ m i, Sum.elim (fun a2 : Unit × (Int × Unit) => some (a2.2, ())) (fun b3 : Unit × Unit => some (((-1 : Int), ()), ())) (sch (fun i => bif idB t (l.getD i z_Timer) then some (Sum.inl ((), (i : Int), ())) else none) (Sum.inr ((), ())) m i) = some ((sch (fun i => bif idB t (l.getD i z_Timer) then some (i : Int) else none) (-1) m i, ()), ()) := by
      intro m
      induction m with
      | zero => intro i; rfl
      | succ m ih =>
        intro i
        simp only [sch]
        cases idB t (l.getD i z_Timer) with
        | true => rfl
        | false => simpa using ih (i + 1)
    exact this l.length 0
  unfold slices_DeleteFunc_impl_Timer_impl_Timer_2
  rw [hidx]
  simp only [Option.bind_some]
  rcases sch_cases (hit := fun i => bif idB t (l.getD i z_Timer) then some (i : Int) else none) (fin := (-1 : Int)) l.length 0 with ⟨j, o, _, h2, h3, h4⟩ | ⟨h1, h2⟩
  · rw [h4]
    have hj : idB t (l.getD j z_Timer) = true ∧ o = (j : Int) := by
      cases hb : idB t (l.getD j z_Timer) with
      | true => simp only [hb, cond_true, Option.some.injEq] at h3; exact ⟨rfl, h3.symm⟩
      | false =>
        have h3' : (bif idB t (l.getD j z_Timer) then some (j : Int) else none) = some o := h3
        rw [hb] at h3'; cases h3'
    obtain ⟨hj1, rfl⟩ := hj
    have hbef : ∀ i, i < j → idB t (l.getD i z_Timer) = false := by
      intro i hi
      cases hb : idB t (l.getD i z_Timer) with
      | false => rfl
      | true =>
        exfalso
        have key : ∀ m a, a ≤ i → i < a + m → sch (fun i => bif idB t (l.getD i z_Timer) then some (i : Int) else none) (-1) m a ≤ (i : Int) := by
          intro m
          induction m with
          | zero => intro a h1 h2; omega
          | succ m ih =>
            intro a ha1 ha2
            simp only [sch]
            cases hc : idB t (l.getD a z_Timer) with
            | true => exact Int.ofNat_le.2 ha1
            | false =>
              have : a ≠ i := by rintro rfl; rw [hb] at hc; cases hc
              simpa using ih (a + 1) (by omega) (by omega)
        have := key l.length 0 (by omega) (by omega)
        rw [h4] at this; omega
    refine (bif_f (by simp)).trans ?_
    have hwj : IntKind.wrap .i64 ((j : Int) + 1) = ((j + 1 : Nat) : Int) := w64 (by omega)
    rw [hwj]
    have pre : (l.take j).filter (fun e => !idB t e) = l.take j := by
      rw [List.filter_eq_self]
      intro e he
      obtain ⟨i, hi, rfl⟩ := List.mem_iff_getElem.1 he
      rw [List.length_take] at hi
      have := hbef i (by omega)
      rw [getD_at l z_Timer i (by omega)] at this
      rw [List.getElem_take, this]; rfl
    obtain ⟨⟨L, q⟩, ⟨g1, g2, g3, g4⟩, run⟩ := inv_run (step := slices_DeleteFunc_impl_Timer_impl_Timer_2_s5) (n := l.length) (st := fun j (a : List D_Timer × Nat) => ((), a.1, (t, ()), (a.2 : Int), (j : Int), ()))
      (fin := fun a => ((), a.1, (a.2 : Int), ())) (fun j a => a.1.length = l.length ∧ a.2 < j ∧ a.1.take a.2 = (l.take j).filter (fun e => !idB t e) ∧ a.1.drop j = l.drop j) (fun i a hi hI => by
        obtain ⟨L, q⟩ := a
        obtain ⟨i1, i2, i3, i4⟩ := hI
        simp only at i1 i2 i3 i4
        have hLi : L.getD i z_Timer = l.getD i z_Timer := by
          rw [getD_at L z_Timer i (by omega), getD_at l z_Timer i hi]
          have := congrArg (fun x => x[0]?) i4
          simp only [List.getElem?_drop, Nat.add_zero] at this
          rw [List.getElem?_eq_getElem (by omega), List.getElem?_eq_getElem hi] at this
          simpa using this
        have hdr : L.drop (i + 1) = l.drop (i + 1) := by
          have := congrArg (List.drop 1) i4
          simpa [List.drop_drop, Nat.add_comm] using this
        have hwi : IntKind.wrap .i64 ((i : Int) + 1) = ((i + 1 : Nat) : Int) := w64 (by omega)
        have hwq : IntKind.wrap .i64 ((q : Int) + 1) = ((q + 1 : Nat) : Int) := w64 (by omega)
        have htk : (l.take (i + 1)).filter (fun e => !idB t e) = (l.take i).filter (fun e => !idB t e) ++ (bif idB t (l.getD i z_Timer) then [] else [l.getD i z_Timer]) := by
          rw [List.take_add_one, List.getElem?_eq_getElem hi, List.filter_append, getD_at l z_Timer i hi]
          cases hb0 : idB t l[i] <;> simp [List.filter_cons, hb0]
        cases hb : idB t (l.getD i z_Timer) with
        | false =>
          refine ⟨(L.set q (l.getD i z_Timer), q + 1), ⟨by simpa using i1, by simp only; omega, ?_, ?_⟩, fun rec => ?_⟩
          · simp only
            rw [htk, hb, List.take_add_one, List.take_set_of_le (Nat.le_refl _), i3]
            simp [show q < L.length by omega]
          · simp only
            rw [List.drop_set_of_lt (by omega)]; exact hdr
          · unfold slices_DeleteFunc_impl_Timer_impl_Timer_2_s5
            refine (bif_t (by simp; omega)).trans ?_
            refine (bif_t (by simp; omega)).trans ?_
            refine (bif_t (by simp; omega)).trans ?_
            unfold impl_WheelSet_1
            simp only [Option.bind_some, hwi, hwq]
            have hb' : decide ((L.getD i z_Timer).1 = t) = false := by rw [hLi]; exact hb
            refine (bif_t (by show (!decide ((L.getD i z_Timer).1 = t)) = true; rw [hb']; rfl)).trans ?_
            refine (bif_t (by simp; omega)).trans ?_
            refine (bif_t (by simp; omega)).trans ?_
            show rec ((), L.set q (L.getD i z_Timer), _) = _
            rw [hLi]
        | true =>
          refine ⟨(L, q), ⟨i1, by simp only; omega, ?_, hdr⟩, fun rec => ?_⟩
          · simp only; rw [htk, hb, i3]; simp
          · unfold slices_DeleteFunc_impl_Timer_impl_Timer_2_s5
            refine (bif_t (by simp; omega)).trans ?_
            refine (bif_t (by simp; omega)).trans ?_
            refine (bif_t (by simp; omega)).trans ?_
            unfold impl_WheelSet_1
            simp only [Option.bind_some, hwi]
            have hb' : decide ((L.getD i z_Timer).1 = t) = true := by rw [hLi]; exact hb
            refine (bif_f (by show (!decide ((L.getD i z_Timer).1 = t)) = false; rw [hb']; rfl)).trans ?_
            rfl) (fun a hI rec => by
        obtain ⟨i1, i2, i3, i4⟩ := hI
        unfold slices_DeleteFunc_impl_Timer_impl_Timer_2_s5
        exact bif_f (by simp; omega)) (l.length - (j + 1)) (j + 1) k (l, j) (by omega) (by omega) ⟨rfl, by simp only; omega, by
          simp only
          have hjl : j < l.length := by omega
          rw [List.take_add_one, List.getElem?_eq_getElem hjl, List.filter_append, pre]
          rw [getD_at l z_Timer j hjl] at hj1
          simp [List.filter_cons, hj1], rfl⟩
    simp only at g1 g2 g3 g4
    refine (congrArg (fun o => Option.bind o _) run).trans ?_
    simp only [Option.bind_some]
    rw [List.take_length] at g3
    refine (bif_t (by simp; omega)).trans ?_
    refine (bif_t (by simp [clr_length]; omega)).trans ?_
    simp only [Int.toNat_natCast]
    rw [clr_take _ _ _ _ _ (Nat.le_refl _), g3]
  · rw [h2]
    refine (bif_t (by simp)).trans ?_
    have : l.filter (fun e => !idB t e) = l := by
      rw [List.filter_eq_self]
      intro e he
      obtain ⟨i, hi, rfl⟩ := List.mem_iff_getElem.1 he
      have := h1 i (by omega) (by omega)
      rw [getD_at l z_Timer i hi] at this
      cases hb : idB t l[i] with
      | true => simp [hb] at this
      | false => rfl
    rw [this]
theorem copy_eq_2 (k : Nat) (hk : MM < k) (w : D_Wheel) (hw : fitW w) (t : Int) : impl_copyWheel_2 k w (t, ()) = some (((w.1, w.2.1.map (fsp fun e => !idB t e), ()), ()), ()) := by
  have hM : MM = 1048576 := rfl
  have hw1 := hw.1
  unfold impl_copyWheel_2
  have run := thru_run0 (step := impl_copyWheel_2_s3 k) (x := w.2.1) z_Spoke (st := fun j a => ((), (t, ()), w, ((0 : Int), ([] : List D_Spoke), ()), a, w.2.1, ((w.2.1.length : Nat) : Int), (j : Int), ()))
    (g := fun _ s a => a ++ [fsp (fun e => !idB t e) s]) (fin := fun a => ((), w, ((0 : Int), ([] : List D_Spoke), ()), a, ())) (fun j a => a.length = j)
    (fun j a hj hI rec => by
      have hl := hw.2 _ (getD_mem _ z_Spoke j hj)
      unfold impl_copyWheel_2_s3
      refine (bif_t (by simp; omega)).trans ?_
      refine (bif_t (by simp; omega)).trans ?_
      refine (bif_t (by simp; omega)).trans ?_
      refine (congrArg (fun o => Option.bind o _) (clone_eq _ hl)).trans ?_
      simp only [Option.bind_some]
      refine (congrArg (fun o => Option.bind o _) (del_run_2 k hk t _ hl)).trans ?_
      simp only [Option.bind_some]
      refine (bif_t (by simp; omega)).trans ?_
      have hwi : IntKind.wrap .i64 ((j : Int) + 1) = ((j + 1 : Nat) : Int) := w64 (by omega)
      simp only [hwi]
      rfl)
    (fun j a hj hI => by simp [hI]) (fun a _ rec => by
      unfold impl_copyWheel_2_s3
      exact bif_f (by simp)) (k := k) (by omega) (a := []) rfl
  refine (congrArg (fun o => Option.bind o _) run).trans ?_
  rw [thru_all]
  simp

theorem del_run_3 (k : Nat) (hk : MM < k) (t : Int) (l : List D_Timer) (hl : l.length ≤ 1048576) : slices_DeleteFunc_impl_Timer_impl_Timer_3 k l (t, ()) = some ((l.filter (fun e => !idB t e), ()), ([], ())) := by
  have hM : MM = 1048576 := rfl
  have hidx : slices_IndexFunc_impl_Timer_impl_Timer_4 k l (t, ()) = some ((sch (fun i => bif idB t (l.getD i z_Timer) then some (i : Int) else none) (-1) l.length 0, ()), ()) := by
    unfold slices_IndexFunc_impl_Timer_impl_Timer_4
    have run := search_run (step := slices_IndexFunc_impl_Timer_impl_Timer_4_s2) (st := fun i => ((), l, (t, ()), ((l.length : Nat) : Int), (i : Int), ())) (n := l.length) (hit := fun i => bif idB t (l.getD i z_Timer) then some (Sum.inl ((), (i : Int), ())) else none) (fin := Sum.inr ((), ())) (fun i hi rec => by
      unfold slices_IndexFunc_impl_Timer_impl_Timer_4_s2
      refine (bif_t (by simp; omega)).trans ?_
      refine (bif_t (by simp; omega)).trans ?_
      refine (bif_t (by simp; omega)).trans ?_
      have hwi : IntKind.wrap .i64 ((i : Int) + 1) = ((i + 1 : Nat) : Int) := w64 (by omega)
      unfold idB impl_WheelDrop_1
      simp only [Option.bind_some, hwi]
      obtain ⟨e, he⟩ : ∃ e, e = l.getD (i : Int).toNat z_Timer := ⟨_, rfl⟩
      have he' : e = l.getD i z_Timer := he
      show (bif decide ((l.getD i z_Timer).1 = t) then _ else _) = _
      generalize decide ((l.getD i z_Timer).1 = t) = b
      cases b <;> rfl) (fun rec => by
      unfold slices_IndexFunc_impl_Timer_impl_Timer_4_s2
      exact bif_f (by simp)) l.length 0 k (by omega) (by omega)
    refine (congrArg (fun o => Option.bind o _) run).trans ?_
    have : ∀ m i, Sum.elim (fun a2 : Unit × (Int × Unit) => some (a2.2, ())) (fun b3 : Unit × Unit => some (((-1 : Int), ()), ())) (sch (fun i => bif idB t (l.getD i z_Timer) then some (Sum.inl ((), (i : Int), ())) else none) (Sum.inr ((), ())) m i) = some ((sch (fun i => bif idB t (l.getD i z_Timer) then some (i : Int) else none) (-1) m i, ()), ()) := by
      intro m
      induction m with
      | zero => intro i; rfl
      | succ m ih =>
        intro i
        simp only [sch]
        cases idB t (l.getD i z_Timer) with
        | true => rfl
        | false => simpa using ih (i + 1)
    exact this l.length 0
  unfold slices_DeleteFunc_impl_Timer_impl_Timer_3
  rw [hidx]
  simp only [Option.bind_some]
  rcases sch_cases (hit := fun i => bif idB t (l.getD i z_Timer) then some (i : Int) else none) (fin := (-1 : Int)) l.length 0 with ⟨j, o, _, h2, h3, h4⟩ | ⟨h1, h2⟩
  · rw [h4]
    have hj : idB t (l.getD j z_Timer) = true ∧ o = (j : Int) := by
      cases hb : idB t (l.getD j z_Timer) with
      | true => simp only [hb, cond_true, Option.some.injEq] at h3; exact ⟨rfl, h3.symm⟩
      | false =>
        have h3' : (bif idB t (l.getD j z_Timer) then some (j : Int) else none) = some o := h3
        rw [hb] at h3'; cases h3'
    obtain ⟨hj1, rfl⟩ := hj
    have hbef : ∀ i, i < j → idB t (l.getD i z_Timer) = false := by
      intro i hi
      cases hb : idB t (l.getD i z_Timer) with
      | false => rfl
      | true =>
        exfalso
        have key : ∀ m a, a ≤ i → i < a + m → sch (fun i => bif idB t (l.getD i z_Timer) then some (i : Int) else none) (-1) m a ≤ (i : Int) := by
          intro m
          induction m with
          | zero => intro a h1 h2; omega
          | succ m ih =>
            intro a ha1 ha2
            simp only [sch]
            cases hc : idB t (l.getD a z_Timer) with
            | true => exact Int.ofNat_le.2 ha1
            | false =>
              have : a ≠ i := by rintro rfl; rw [hb] at hc; cases hc
              simpa using ih (a + 1) (by omega) (by omega)
        have := key l.length 0 (by omega) (by omega)
        rw [h4] at this; omega
    refine (bif_f (by simp)).trans ?_
    have hwj : IntKind.wrap .i64 ((j : Int) + 1) = ((j + 1 : Nat) : Int) := w64 (by omega)
    rw [hwj]
    have pre : (l.take j).filter (fun e => !idB t e) = l.take j := by
      rw [List.filter_eq_self]
      intro e he
      obtain ⟨i, hi, rfl⟩ := List.mem_iff_getElem.1 he
      rw [List.length_take] at hi
      have := hbef i (by omega)
      rw [getD_at l z_Timer i (by omega)] at this
      rw [List.getElem_take, this]; rfl
    obtain ⟨⟨L, q⟩, ⟨g1, g2, g3, g4⟩, run⟩ := inv_run (step := slices_DeleteFunc_impl_Timer_impl_Timer_3_s5) (n := l.length) (st := fun j (a : List D_Timer × Nat) => ((), a.1, (t, ()), (a.2 : Int), (j : Int), ()))
      (fin := fun a => ((), a.1, (a.2 : Int), ())) (fun j a => a.1.length = l.length ∧ a.2 < j ∧ a.1.take a.2 = (l.take j).filter (fun e => !idB t e) ∧ a.1.drop j = l.drop j) (fun i a hi hI => by
        obtain ⟨L, q⟩ := a
        obtain ⟨i1, i2, i3, i4⟩ := hI
        simp only at i1 i2 i3 i4
        have hLi : L.getD i z_Timer = l.getD i z_Timer := by
          rw [getD_at L z_Timer i (by omega), getD_at l z_Timer i hi]
          have := congrArg (fun x => x[0]?) i4
          simp only [List.getElem?_drop, Nat.add_zero] at this
          rw [List.getElem?_eq_getElem (by omega), List.getElem?_eq_getElem hi] at this
          simpa using this
        have hdr : L.drop (i + 1) = l.drop (i + 1) := by
          have := congrArg (List.drop 1) i4
          simpa [List.drop_drop, Nat.add_comm] using this
        have hwi : IntKind.wrap .i64 ((i : Int) + 1) = ((i + 1 : Nat) : Int) := w64 (by omega)
        have hwq : IntKind.wrap .i64 ((q : Int) + 1) = ((q + 1 : Nat) : Int) := w64 (by omega)
        have htk : (l.take (i + 1)).filter (fun e => !idB t e) = (l.take i).filter (fun e => !idB t e) ++ (bif idB t (l.getD i z_Timer) then [] else [l.getD i z_Timer]) := by
          rw [List.take_add_one, List.getElem?_eq_getElem hi, List.filter_append, getD_at l z_Timer i hi]
          cases hb0 : idB t l[i] <;> simp [List.filter_cons, hb0]
        cases hb : idB t (l.getD i z_Timer) with
        | false =>
          refine ⟨(L.set q (l.getD i z_Timer), q + 1), ⟨by simpa using i1, by simp only; omega, ?_, ?_⟩, fun rec => ?_⟩
          · simp only
            rw [htk, hb, List.take_add_one, List.take_set_of_le (Nat.le_refl _), i3]
            simp [show q < L.length by omega]
          · simp only
            rw [List.drop_set_of_lt (by omega)]; exact hdr
          · unfold slices_DeleteFunc_impl_Timer_impl_Timer_3_s5
            refine (bif_t (by simp; omega)).trans ?_
            refine (bif_t (by simp; omega)).trans ?_
            refine (bif_t (by simp; omega)).trans ?_
            unfold impl_WheelDrop_1
            simp only [Option.bind_some, hwi, hwq]
            have hb' : decide ((L.getD i z_Timer).1 = t) = false := by rw [hLi]; exact hb
            refine (bif_t (by show (!decide ((L.getD i z_Timer).1 = t)) = true; rw [hb']; rfl)).trans ?_
            refine (bif_t (by simp; omega)).trans ?_
            refine (bif_t (by simp; omega)).trans ?_
            show rec ((), L.set q (L.getD i z_Timer), _) = _
            rw [hLi]
        | true =>
          refine ⟨(L, q), ⟨i1, by simp only; omega, ?_, hdr⟩, fun rec => ?_⟩
          · simp only; rw [htk, hb, i3]; simp
          · unfold slices_DeleteFunc_impl_Timer_impl_Timer_3_s5
            refine (bif_t (by simp; omega)).trans ?_
            refine (bif_t (by simp; omega)).trans ?_
            refine (bif_t (by simp; omega)).trans ?_
            unfold impl_WheelDrop_1
            simp only [Option.bind_some, hwi]
            have hb' : decide ((L.getD i z_Timer).1 = t) = true := by rw [hLi]; exact hb
            refine (bif_f (by show (!decide ((L.getD i z_Timer).1 = t)) = false; rw [hb']; rfl)).trans ?_
            rfl) (fun a hI rec => by
        obtain ⟨i1, i2, i3, i4⟩ := hI
        unfold slices_DeleteFunc_impl_Timer_impl_Timer_3_s5
        exact bif_f (by simp; omega)) (l.length - (j + 1)) (j + 1) k (l, j) (by omega) (by omega) ⟨rfl, by simp only; omega, by
          simp only
          have hjl : j < l.length := by omega
          rw [List.take_add_one, List.getElem?_eq_getElem hjl, List.filter_append, pre]
          rw [getD_at l z_Timer j hjl] at hj1
          simp [List.filter_cons, hj1], rfl⟩
    simp only at g1 g2 g3 g4
    refine (congrArg (fun o => Option.bind o _) run).trans ?_
    simp only [Option.bind_some]
    rw [List.take_length] at g3
    refine (bif_t (by simp; omega)).trans ?_
    refine (bif_t (by simp [clr_length]; omega)).trans ?_
    simp only [Int.toNat_natCast]
    rw [clr_take _ _ _ _ _ (Nat.le_refl _), g3]
  · rw [h2]
    refine (bif_t (by simp)).trans ?_
    have : l.filter (fun e => !idB t e) = l := by
      rw [List.filter_eq_self]
      intro e he
      obtain ⟨i, hi, rfl⟩ := List.mem_iff_getElem.1 he
      have := h1 i (by omega) (by omega)
      rw [getD_at l z_Timer i hi] at this
      cases hb : idB t l[i] with
      | true => simp [hb] at this
      | false => rfl
    rw [this]
theorem copy_eq_3 (k : Nat) (hk : MM < k) (w : D_Wheel) (hw : fitW w) (t : Int) : impl_copyWheel_3 k w (t, ()) = some (((w.1, w.2.1.map (fsp fun e => !idB t e), ()), ()), ()) := by
  have hM : MM = 1048576 := rfl
  have hw1 := hw.1
  unfold impl_copyWheel_3
  have run := thru_run0 (step := impl_copyWheel_3_s3 k) (x := w.2.1) z_Spoke (st := fun j a => ((), (t, ()), w, ((0 : Int), ([] : List D_Spoke), ()), a, w.2.1, ((w.2.1.length : Nat) : Int), (j : Int), ()))
    (g := fun _ s a => a ++ [fsp (fun e => !idB t e) s]) (fin := fun a => ((), w, ((0 : Int), ([] : List D_Spoke), ()), a, ())) (fun j a => a.length = j)
    (fun j a hj hI rec => by
      have hl := hw.2 _ (getD_mem _ z_Spoke j hj)
      unfold impl_copyWheel_3_s3
      refine (bif_t (by simp; omega)).trans ?_
      refine (bif_t (by simp; omega)).trans ?_
      refine (bif_t (by simp; omega)).trans ?_
      refine (congrArg (fun o => Option.bind o _) (clone_eq _ hl)).trans ?_
      simp only [Option.bind_some]
      refine (congrArg (fun o => Option.bind o _) (del_run_3 k hk t _ hl)).trans ?_
      simp only [Option.bind_some]
      refine (bif_t (by simp; omega)).trans ?_
      have hwi : IntKind.wrap .i64 ((j : Int) + 1) = ((j + 1 : Nat) : Int) := w64 (by omega)
      simp only [hwi]
      rfl)
    (fun j a hj hI => by simp [hI]) (fun a _ rec => by
      unfold impl_copyWheel_3_s3
      exact bif_f (by simp)) (k := k) (by omega) (a := []) rfl
  refine (congrArg (fun o => Option.bind o _) run).trans ?_
  rw [thru_all]
  simp

end Go.Tw
