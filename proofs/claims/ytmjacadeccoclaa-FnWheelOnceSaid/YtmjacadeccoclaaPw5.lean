/- Plain facts on the mirrors of the functions are proved here. -/
import Derived.Test.YtmjacadeccoclaaPw4
set_option linter.all false
namespace Go.Tw
open Go Go.RowKit

/-! the copy that leaves out nothing -/
theorem idx1_run (k : Nat) (hk : MM < k) (l : List D_Timer) (hl : l.length ≤ 1048576) : slices_DeleteFunc_impl_Timer_impl_Timer_1 k l () = some ((l, ()), ([], ())) := by
  have hM : MM = 1048576 := rfl
  have hidx : slices_IndexFunc_impl_Timer_impl_Timer_1 k l () = some (((-1 : Int), ()), ()) := by
    unfold slices_IndexFunc_impl_Timer_impl_Timer_1
    have run := search_run (step := slices_IndexFunc_impl_Timer_impl_Timer_1_s2) (st := fun i => ((), l, (), ((l.length : Nat) : Int), (i : Int), ())) (n := l.length) (hit := fun i => none) (fin := Sum.inr ((), ())) (fun i hi rec => by
      unfold slices_IndexFunc_impl_Timer_impl_Timer_1_s2
      refine (bif_t (by simp; omega)).trans ?_
      refine (bif_t (by simp; omega)).trans ?_
      refine (bif_t (by simp; omega)).trans ?_
      have hwi : IntKind.wrap .i64 ((i : Int) + 1) = ((i + 1 : Nat) : Int) := w64 (by omega)
      unfold impl_WheelRun_1
      simp only [Option.bind_some, hwi]
      rfl) (fun rec => by
      unfold slices_IndexFunc_impl_Timer_impl_Timer_1_s2
      exact bif_f (by simp)) l.length 0 k (by omega) (by omega)
    refine (congrArg (fun o => Option.bind o _) run).trans ?_
    have : ∀ m i, sch (O := (Unit × (Int × Unit)) ⊕ (Unit × Unit)) (fun i => none) (Sum.inr ((), ())) m i = Sum.inr ((), ()) := by
      intro m
      induction m with
      | zero => intro i; rfl
      | succ m ih => intro i; simp only [sch]; exact ih _
    rw [this]; rfl
  unfold slices_DeleteFunc_impl_Timer_impl_Timer_1
  rw [hidx]
  rfl
theorem clone_eq (l : List D_Timer) (hl : l.length ≤ 1048576) : slices_Clone_impl_Timer_impl_Timer l = some ((l, ()), ()) := by
  unfold slices_Clone_impl_Timer_impl_Timer
  exact bif_t (by simp; omega)
theorem copy1_eq (k : Nat) (hk : MM < k) (w : D_Wheel) (hw : fitW w) : impl_copyWheel_1 k w () = some ((w, ()), ()) := by
  have hM : MM = 1048576 := rfl
  have hw1 := hw.1
  unfold impl_copyWheel_1
  have run := thru_run0 (step := impl_copyWheel_1_s3 k) (x := w.2.1) z_Spoke (st := fun j a => ((), (), w, ((0 : Int), ([] : List D_Spoke), ()), a, w.2.1, ((w.2.1.length : Nat) : Int), (j : Int), ()))
    (g := fun _ s a => a ++ [s]) (fin := fun a => ((), w, ((0 : Int), ([] : List D_Spoke), ()), a, ())) (fun j a => a.length = j)
    (fun j a hj hI rec => by
      have hl := hw.2 _ (getD_mem _ z_Spoke j hj)
      unfold impl_copyWheel_1_s3
      refine (bif_t (by simp; omega)).trans ?_
      refine (bif_t (by simp; omega)).trans ?_
      refine (bif_t (by simp; omega)).trans ?_
      refine (congrArg (fun o => Option.bind o _) (clone_eq _ hl)).trans ?_
      simp only [Option.bind_some]
      refine (congrArg (fun o => Option.bind o _) (idx1_run k hk _ hl)).trans ?_
      simp only [Option.bind_some]
      refine (bif_t (by simp; omega)).trans ?_
      have hwi : IntKind.wrap .i64 ((j : Int) + 1) = ((j + 1 : Nat) : Int) := w64 (by omega)
      simp only [hwi])
    (fun j a hj hI => by simp [hI]) (fun a _ rec => by
      unfold impl_copyWheel_1_s3
      exact bif_f (by simp)) (k := k) (by omega) (a := []) rfl
  refine (congrArg (fun o => Option.bind o _) run).trans ?_
  rw [thru_all]
  simp
theorem copy_eq (k : Nat) (hk : MM < k) (w : D_Wheel) (hw : fitW w) (t : Int) : impl_copyWheel k w (t, ()) = some (((w.1, w.2.1.map (fsp fun e => !atB t e), ()), ()), ()) := by
  have hM : MM = 1048576 := rfl
  have hw1 := hw.1
  unfold impl_copyWheel
  have run := thru_run0 (step := impl_copyWheel_s3 k) (x := w.2.1) z_Spoke (st := fun j a => ((), (t, ()), w, ((0 : Int), ([] : List D_Spoke), ()), a, w.2.1, ((w.2.1.length : Nat) : Int), (j : Int), ()))
    (g := fun _ s a => a ++ [fsp (fun e => !atB t e) s]) (fin := fun a => ((), w, ((0 : Int), ([] : List D_Spoke), ()), a, ())) (fun j a => a.length = j)
    (fun j a hj hI rec => by
      have hl := hw.2 _ (getD_mem _ z_Spoke j hj)
      unfold impl_copyWheel_s3
      refine (bif_t (by simp; omega)).trans ?_
      refine (bif_t (by simp; omega)).trans ?_
      refine (bif_t (by simp; omega)).trans ?_
      refine (congrArg (fun o => Option.bind o _) (clone_eq _ hl)).trans ?_
      simp only [Option.bind_some]
      refine (congrArg (fun o => Option.bind o _) (del_run k hk t _ hl)).trans ?_
      simp only [Option.bind_some]
      refine (bif_t (by simp; omega)).trans ?_
      have hwi : IntKind.wrap .i64 ((j : Int) + 1) = ((j + 1 : Nat) : Int) := w64 (by omega)
      simp only [hwi]
      rfl)
    (fun j a hj hI => by simp [hI]) (fun a _ rec => by
      unfold impl_copyWheel_s3
      exact bif_f (by simp)) (k := k) (by omega) (a := []) rfl
  refine (congrArg (fun o => Option.bind o _) run).trans ?_
  rw [thru_all]
  simp

/-! one tick -/
def spokeAt (w : D_Wheel) (t : Int) : List D_Timer := (w.2.1.getD (Int.tmod t 8).toNat z_Spoke).1
def tickW (w : D_Wheel) : D_Wheel × List D_Timer := ((w.1 + 1, w.2.1.map (fsp fun e => !atB (w.1 + 1) e), ()), (spokeAt w (w.1 + 1)).filter (atB (w.1 + 1)))
theorem tmod8 {n : Int} (h : 0 ≤ n) : 0 ≤ Int.tmod n 8 ∧ Int.tmod n 8 < 8 := by
  rw [Int.tmod_eq_emod_of_nonneg h]
  exact ⟨Int.emod_nonneg _ (by omega), Int.emod_lt_of_pos _ (by omega)⟩
theorem tick_eq (k : Nat) (hk : MM < k) (w : D_Wheel) (hn : 0 ≤ w.1 ∧ w.1 ≤ 2000000000000) (h8 : w.2.1.length = 8) (hw : fitW w) : impl_Wheel_tick k w = some (((tickW w).1, (tickW w).2, ()), ()) := by
  have hM : MM = 1048576 := rfl
  have hwn : IntKind.wrap .i64 (w.1 + 1) = w.1 + 1 := w64 (by omega)
  have ht := tmod8 (n := w.1 + 1) (by omega)
  have hlt : (Int.tmod (w.1 + 1) 8).toNat < w.2.1.length := by omega
  unfold impl_Wheel_tick
  rw [hwn]
  refine (bif_t (by simp; omega)).trans ?_
  refine (bif_t (by simp; omega)).trans ?_
  have hl := hw.2 _ (getD_mem _ z_Spoke _ hlt)
  have run := thru_run0 (step := impl_Wheel_tick_s3) (x := (w.2.1.getD (Int.tmod (w.1 + 1) 8).toNat z_Spoke).1) z_Timer (st := fun j a => ((), w, ((0 : Int), ([] : List D_Spoke), ()), w.1 + 1, a, (w.2.1.getD (Int.tmod (w.1 + 1) 8).toNat z_Spoke).1, (((w.2.1.getD (Int.tmod (w.1 + 1) 8).toNat z_Spoke).1.length : Nat) : Int), (j : Int), ()))
    (g := fun _ e a => bif atB (w.1 + 1) e then a ++ [e] else a) (fin := fun a => ((), w, ((0 : Int), ([] : List D_Spoke), ()), w.1 + 1, a, ())) (fun j a => a.length ≤ j)
    (fun j a hj hI rec => by
      generalize (w.2.1.getD (Int.tmod (w.1 + 1) 8).toNat z_Spoke).1 = l at hj hl ⊢
      unfold impl_Wheel_tick_s3
      refine (bif_t (by simp; omega)).trans ?_
      refine (bif_t (by simp; omega)).trans ?_
      refine (bif_t (by simp; omega)).trans ?_
      have hwi : IntKind.wrap .i64 ((j : Int) + 1) = ((j + 1 : Nat) : Int) := w64 (by omega)
      obtain ⟨e, he⟩ : ∃ e, e = l.getD (j : Int).toNat z_Timer := ⟨_, rfl⟩
      have he' : e = l.getD j z_Timer := he
      rw [← he, ← he']
      have hb : decide ((a.length + 1) * 16 ≤ 1099511627776) = true := by simp; omega
      unfold atB
      simp only [hwi, hb]
      generalize decide (e.2.1 = w.1 + 1) = b1
      cases b1 <;> rfl)
    (fun j a hj hI => by
      cases atB (w.1 + 1) ((w.2.1.getD (Int.tmod (w.1 + 1) 8).toNat z_Spoke).1.getD j z_Timer) <;> simp <;> omega) (fun a _ rec => by
      unfold impl_Wheel_tick_s3
      exact bif_f (by simp)) (k := k) (by omega) (a := []) (by simp)
  refine (congrArg (fun o => Option.bind o _) run).trans ?_
  simp only [Option.bind_some]
  refine (congrArg (fun o => Option.bind o _) (copy_eq k hk w hw (w.1 + 1))).trans ?_
  rw [thru_filter]
  rfl

/-! which timers stand where -/
theorem flat_filter (p : D_Timer → Bool) : ∀ (ss : List D_Spoke) (c : Nat), c < ss.length → (∀ (j : Nat) s, ss[j]? = some s → j ≠ c → ∀ e ∈ s.1, p e = false) → (ss.flatMap (·.1)).filter p = (ss.getD c z_Spoke).1.filter p
  | [], c, h, _ => by simp at h
  | s :: ss, 0, h, hp => by
    simp only [List.flatMap_cons, List.filter_append, List.getD_cons_zero]
    have : (ss.flatMap (·.1)).filter p = [] := by
      rw [List.filter_eq_nil_iff]
      intro e he
      obtain ⟨t, ht, he⟩ := List.mem_flatMap.1 he
      obtain ⟨j, hj⟩ := List.mem_iff_getElem?.1 ht
      rw [hp (j + 1) t (by simpa using hj) (by omega) e he]; simp
    rw [this, List.append_nil]
  | s :: ss, c + 1, h, hp => by
    simp only [List.flatMap_cons, List.filter_append, List.getD_cons_succ]
    have : s.1.filter p = [] := by
      rw [List.filter_eq_nil_iff]
      intro e he
      rw [hp 0 s rfl (by omega) e he]; simp
    rw [this, List.nil_append]
    exact flat_filter p ss c (by simpa using h) fun j t hj hne => hp (j + 1) t (by simpa using hj) (by omega)
/-- every timer stands on its spoke -/
def ModP (w : D_Wheel) : Prop := ∀ (j : Nat) s, w.2.1[j]? = some s → ∀ e ∈ s.1, Int.tmod e.2.1 8 = (j : Int)
theorem spoke_flat (w : D_Wheel) (h8 : w.2.1.length = 8) (hm : ModP w) (t : Int) (ht : 0 ≤ t) : (spokeAt w t).filter (atB t) = (flatW w).filter (atB t) := by
  have h := tmod8 ht
  unfold spokeAt flatW
  rw [flat_filter (atB t) w.2.1 (Int.tmod t 8).toNat (by omega) fun j s hj hne e he => ?_]
  have := hm j s hj e he
  unfold atB
  rw [decide_eq_false_iff_not]
  rintro rfl
  omega
end Go.Tw
