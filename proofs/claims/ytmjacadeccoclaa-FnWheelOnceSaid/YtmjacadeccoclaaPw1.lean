/- Plain facts on the mirrors of the functions are proved here. -/
import Derived.Test.YtmjacadeccoclaaMd
import Derived.Test.YtmjacadeccoclaaPw0
set_option linter.all false
namespace Go.Tw
open Go Go.RowKit

theorem within_eq (x a b : Int) : impl_within x a b = some (((decide (a ≤ x) && decide (x ≤ b)), ()), ()) := by
  unfold impl_within
  cases decide (a ≤ x) <;> rfl
def goodT (now i : Int) (e : D_Timer) : Bool := (decide (0 ≤ e.1) && decide (e.1 ≤ 9999)) && ((decide (now + 1 ≤ e.2.1) && decide (e.2.1 ≤ now + 1000)) && decide (Int.tmod e.2.1 8 = i))
abbrev nowP (now : Int) : Prop := 0 ≤ now ∧ now ≤ 1000000000000
theorem ahead_eq (w : D_Wheel) (hn : nowP w.1) (a : Int) : impl_Wheel_isAhead w a = some (((decide (w.1 + 1 ≤ a) && decide (a ≤ w.1 + 1000)), ()), ()) := by
  unfold impl_Wheel_isAhead
  rw [w64 (by omega), w64 (by omega), within_eq]; rfl
/-- one spoke, where these were seen -/
def okT (now i : Int) : List D_Timer → List Int → Bool
  | [], _ => true
  | e :: l, ids => (goodT now i e && !decide (e.1 ∈ ids)) && okT now i l (ids ++ [e.1])
def okW (now : Int) : List D_Spoke → Int → List Int → Bool
  | [], _, _ => true
  | s :: ss, i, ids => okT now i s.1 ids && okW now ss (i + 1) (ids ++ s.1.map (·.1))

theorem innerI_run (k : Nat) (w : D_Wheel) (hn : nowP w.1) (i n i2 : Int) (sp : List D_Spoke) (l : List D_Timer) (hl : l.length ≤ 1048576) (hk : MM < k) (ids : List Int) :
    iter impl_WheelOk_s8 k ((), w, mpI ids, i, sp, n, i2, l, ((l.length : Nat) : Int), (0 : Int), ()) = some (bif okT w.1 i l ids then Sum.inr ((), w, mpI (ids ++ l.map (·.1)), sp, n, i2, ()) else Sum.inl ((), false, ())) := by
  have hM : MM = 1048576 := rfl
  have run := walk_run0 (step := impl_WheelOk_s8) (x := l) z_Timer (st := fun j ids => ((), w, mpI ids, i, sp, n, i2, l, ((l.length : Nat) : Int), (j : Int), ()))
    (f := fun _ e ids => bif goodT w.1 i e && !decide (e.1 ∈ ids) then .inr (ids ++ [e.1]) else .inl (Sum.inl ((), false, ()))) (fin := fun ids => Sum.inr ((), w, mpI ids, sp, n, i2, ())) (fun _ _ => True)
    (fun j ids hj _ rec => by
      unfold impl_WheelOk_s8
      refine (bif_t (by simp; omega)).trans ?_
      refine (bif_t (by simp; omega)).trans ?_
      refine (bif_t (by simp; omega)).trans ?_
      obtain ⟨e, he⟩ : ∃ e, e = l.getD (j : Int).toNat z_Timer := ⟨_, rfl⟩
      have he' : e = l.getD j z_Timer := he
      rw [← he, ← he']
      simp only [within_eq, ahead_eq w hn, Option.bind_some, mget_mpI]
      unfold goodT
      have hms : decide (e.1 ∈ ids) = false → mset (mpI ids) e.1 true = mpI (ids ++ [e.1]) := fun h => mset_mpI _ _ (by simpa using h)
      have hwi : IntKind.wrap .i64 ((j : Int) + 1) = ((j + 1 : Nat) : Int) := w64 (by omega)
      rw [hwi]
      generalize (decide (0 ≤ e.1) && decide (e.1 ≤ 9999)) = b1
      generalize (decide (w.1 + 1 ≤ e.2.1) && decide (e.2.1 ≤ w.1 + 1000)) = b2
      generalize decide (Int.tmod e.2.1 8 = i) = b3
      cases h : decide (e.1 ∈ ids) with
      | true => cases b1 <;> cases b2 <;> cases b3 <;> rfl
      | false =>
        rw [hms h]
        cases b1 <;> cases b2 <;> cases b3 <;> rfl)
    (fun _ _ _ _ _ _ => trivial) (fun ids _ rec => by
      unfold impl_WheelOk_s8
      exact bif_f (by simp)) (k := k) (by omega) (a := ids) trivial
  rw [show iter impl_WheelOk_s8 k ((), w, mpI ids, i, sp, n, i2, l, ((l.length : Nat) : Int), (0 : Int), ()) = _ from run]
  congr 1
  have : ∀ (l : List D_Timer) (j : Nat) (ids : List Int), walk (fun _ e ids => bif goodT w.1 i e && !decide (e.1 ∈ ids) then Sum.inr (ids ++ [e.1]) else Sum.inl (Sum.inl ((), false, ()))) (fun ids => (Sum.inr ((), w, mpI ids, sp, n, i2, ()) : (Unit × (Bool × Unit)) ⊕ (Unit × (D_Wheel × ((List (Int × Bool)) × ((List D_Spoke) × D_Timer)))))) l j ids = bif okT w.1 i l ids then Sum.inr ((), w, mpI (ids ++ l.map (·.1)), sp, n, i2, ()) else Sum.inl ((), false, ()) := by
    intro l
    induction l with
    | nil => intro j ids; simp [walk, okT]
    | cons e l ih =>
      intro j ids
      simp only [walk, okT]
      cases goodT w.1 i e && !decide (e.1 ∈ ids) with
      | true => simp only [cond_true, Sum.elim_inr, Bool.true_and]; rw [ih]; simp
      | false => rfl
  exact this l 0 ids

abbrev fitW (w : D_Wheel) : Prop := w.2.1.length ≤ 1048576 ∧ ∀ s ∈ w.2.1, s.1.length ≤ 1048576
theorem outerI_run (k : Nat) (hk : MM < k) (w : D_Wheel) (hn : nowP w.1) (hw : fitW w) :
    iter (impl_WheelOk_s5 k) k ((), w, ([] : List (Int × Bool)), w.2.1, ((w.2.1.length : Nat) : Int), (0 : Int), ()) = some (bif okW w.1 w.2.1 0 [] then Sum.inr ((), mpI (w.2.1.flatMap fun s => s.1.map (·.1)), ()) else Sum.inl ((), false, ())) := by
  have hM : MM = 1048576 := rfl
  have run := walk_run0 (step := impl_WheelOk_s5 k) (x := w.2.1) z_Spoke (st := fun j ids => ((), w, mpI ids, w.2.1, ((w.2.1.length : Nat) : Int), (j : Int), ()))
    (f := fun j s ids => bif okT w.1 (j : Int) s.1 ids then .inr (ids ++ s.1.map (·.1)) else .inl (Sum.inl ((), false, ()))) (fin := fun ids => Sum.inr ((), mpI ids, ())) (fun _ _ => True)
    (fun j ids hj _ rec => by
      unfold impl_WheelOk_s5
      refine (bif_t (by simp; omega)).trans ?_
      refine (bif_t (by simp; omega)).trans ?_
      refine (bif_t (by simp; omega)).trans ?_
      have hin := innerI_run k w hn (j : Int) ((w.2.1.length : Nat) : Int) (j : Int) w.2.1 (w.2.1.getD j z_Spoke).1 (hw.2 _ (getD_mem _ _ j hj)) hk ids
      simp only [Int.toNat_natCast]
      refine (congrArg (fun o => Option.bind o _) hin).trans ?_
      have hwi : IntKind.wrap .i64 ((j : Int) + 1) = ((j + 1 : Nat) : Int) := w64 (by omega)
      cases okT w.1 (j : Int) (w.2.1.getD j z_Spoke).1 ids with
      | true => simp only [cond_true, Option.bind_some, Sum.elim_inr, hwi]
      | false => rfl)
    (fun _ _ _ _ _ _ => trivial) (fun ids _ rec => by
      unfold impl_WheelOk_s5
      exact bif_f (by simp)) (k := k) (by have := hw.1; omega) (a := []) trivial
  rw [show iter (impl_WheelOk_s5 k) k ((), w, ([] : List (Int × Bool)), w.2.1, ((w.2.1.length : Nat) : Int), (0 : Int), ()) = _ from run]
  congr 1
  have : ∀ (l : List D_Spoke) (j : Nat) (ids : List Int), walk (fun j s ids => bif okT w.1 (j : Int) s.1 ids then Sum.inr (ids ++ s.1.map (·.1)) else Sum.inl (Sum.inl ((), false, ()))) (fun ids => (Sum.inr ((), mpI ids, ()) : (Unit × (Bool × Unit)) ⊕ (Unit × ((List (Int × Bool)) × Unit)))) l j ids = bif okW w.1 l (j : Int) ids then Sum.inr ((), mpI (ids ++ l.flatMap fun s => s.1.map (·.1)), ()) else Sum.inl ((), false, ()) := by
    intro l
    induction l with
    | nil => intro j ids; simp [walk, okW]
    | cons s l ih =>
      intro j ids
      simp only [walk, okW]
      cases okT w.1 (j : Int) s.1 ids with
      | true => simp only [cond_true, Sum.elim_inr, Bool.true_and]; rw [ih]; simp
      | false => rfl
  exact this w.2.1 0 []
def idsW (w : D_Wheel) : List Int := w.2.1.flatMap fun s => s.1.map (·.1)
def wheelI (w : D_Wheel) : Bool := (decide (0 ≤ w.1) && decide (w.1 ≤ 1000000000000)) && (decide (w.2.1.length = 8) && (okW w.1 w.2.1 0 [] && decide ((idsW w).length ≤ 64)))
theorem implOk_eq (k : Nat) (hk : MM < k) (w : D_Wheel) (hw : fitW w) : impl_WheelOk k w = some ((wheelI w, ()), ()) := by
  unfold impl_WheelOk wheelI impl_isNow
  simp only [within_eq, Option.bind_some]
  cases h1 : (decide (0 ≤ w.1) && decide (w.1 ≤ 1000000000000)) with
  | false => rfl
  | true =>
    simp only [Bool.and_eq_true, decide_eq_true_eq] at h1
    have h2 : decide (((w.2.1.length : Nat) : Int) = 8) = decide (w.2.1.length = 8) := by
      by_cases h : w.2.1.length = 8
      · simp [h]
      · have : ¬ ((w.2.1.length : Nat) : Int) = 8 := by omega
        simp [h, this]
    rw [h2, outerI_run k hk w h1 hw]
    cases decide (w.2.1.length = 8) with
    | false => rfl
    | true =>
      cases okW w.1 w.2.1 0 [] with
      | false => rfl
      | true =>
        simp only [Bool.not_true, Bool.not_false, cond_true, cond_false, Option.bind_some, Sum.elim_inr, Bool.true_and]
        have : decide (((mpI (w.2.1.flatMap fun s => s.1.map (·.1))).length : Int) ≤ 64) = decide ((idsW w).length ≤ 64) := by
          have e : (mpI (w.2.1.flatMap fun s => s.1.map (·.1))).length = (idsW w).length := by simp [mpI, idsW]
          rw [e]
          by_cases h : (idsW w).length ≤ 64
          · have : ((idsW w).length : Int) ≤ 64 := by omega
            simp [h, this]
          · have : ¬ ((idsW w).length : Int) ≤ 64 := by omega
            simp [h, this]
        rw [this]
end Go.Tw
