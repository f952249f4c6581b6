/- Plain facts on the mirrors of the functions are proved here. -/
import Derived.Test.YtmjacadeccoclaaPw6
set_option linter.all false
namespace Go.Tw
open Go Go.RowKit

def noneT : D_Wheel × List Int × Unit := (((0 : Int), ([] : List D_Spoke), ()), ([] : List Int), ())
def tickB (w : D_Wheel) : Bool := wheelI w && !decide (w.1 = 1000000000000)
def tickIds (w : D_Wheel) : List Int := ((flatW w).filter (atB (w.1 + 1))).map (·.1)
def tickR (w : D_Wheel) : D_Wheel × List Int × Unit := bif tickB w then (after w 1, tickIds w, ()) else noneT
theorem specIds_run (k : Nat) (hk : MM < k) (w d : D_Wheel) (hn : nowP w.1) (all : List D_Timer) (ha : all.length ≤ 64) :
    iter spec_WheelTick_s6 k ((), w, d, ([] : List Int), all, (0 : Int), ()) = some ((), w, d, (all.filter (atB (w.1 + 1))).map (·.1), ()) := by
  have hM : MM = 1048576 := rfl
  have hwn : IntKind.wrap .i64 (w.1 + 1) = w.1 + 1 := w64 (by omega)
  have run := thru_run0 (step := spec_WheelTick_s6) (x := all) z_Timer (st := fun j a => ((), w, d, a, all, (j : Int), ()))
    (g := fun _ e a => bif atB (w.1 + 1) e then a ++ [e.1] else a) (fin := fun a => ((), w, d, a, ())) (fun j a => a.length ≤ j)
    (fun j a hj hI rec => by
      unfold spec_WheelTick_s6
      rw [hwn]
      refine (bif_t (by simp; omega)).trans ?_
      refine (bif_t (by simp; omega)).trans ?_
      refine (bif_t (by simp; omega)).trans ?_
      have hwi : IntKind.wrap .i64 ((j : Int) + 1) = ((j + 1 : Nat) : Int) := w64 (by omega)
      have hb0 : ((decide ((0 : Int) ≤ (j : Int))) && (decide ((j : Int) < ((all.length : Nat) : Int)))) = true := by simp; omega
      have hb1 : decide ((j : Int).toNat < all.length) = true := by simp; omega
      obtain ⟨e, he⟩ : ∃ e, e = all.getD (j : Int).toNat z_Timer := ⟨_, rfl⟩
      have he' : e = all.getD j z_Timer := he
      rw [← he, ← he']
      have hb : decide ((a.length + 1) * 8 ≤ 1099511627776) = true := by simp; omega
      unfold atB
      simp only [hwi, hb, hb0, hb1]
      generalize decide (e.2.1 = w.1 + 1) = b1
      cases b1 <;> rfl)
    (fun j a hj hI => by
      cases atB (w.1 + 1) (all.getD j z_Timer) <;> simp <;> omega) (fun a _ rec => by
      unfold spec_WheelTick_s6
      exact bif_f (by simp)) (k := k) (by omega) (a := []) (by simp)
  rw [thru_map (atB (w.1 + 1)) (fun e : D_Timer => e.1), List.nil_append] at run
  exact run
theorem implIds_run (k : Nat) (hk : MM < k) (d w : D_Wheel) (l : List D_Timer) (hl : l.length ≤ 1048576) :
    iter impl_WheelTick_s6 k ((), d, w, ([] : List Int), l, ((l.length : Nat) : Int), (0 : Int), ()) = some ((), d, w, l.map (·.1), ()) := by
  have hM : MM = 1048576 := rfl
  have run := thru_run0 (step := impl_WheelTick_s6) (x := l) z_Timer (st := fun j a => ((), d, w, a, l, ((l.length : Nat) : Int), (j : Int), ()))
    (g := fun _ e a => a ++ [e.1]) (fin := fun a => ((), d, w, a, ())) (fun j a => a.length = j)
    (fun j a hj hI rec => by
      unfold impl_WheelTick_s6
      refine (bif_t (by simp; omega)).trans ?_
      refine (bif_t (by simp; omega)).trans ?_
      refine (bif_t (by simp; omega)).trans ?_
      have hwi : IntKind.wrap .i64 ((j : Int) + 1) = ((j + 1 : Nat) : Int) := w64 (by omega)
      refine (bif_t (by simp; omega)).trans ?_
      simp only [hwi]
      rfl)
    (fun j a hj hI => by simp [hI]) (fun a _ rec => by
      unfold impl_WheelTick_s6
      exact bif_f (by simp)) (k := k) (by omega) (a := []) rfl
  rw [thru_all (fun e : D_Timer => e.1), List.nil_append] at run
  exact run
theorem implTick_eq (k : Nat) (hk : MM < k) (w : D_Wheel) (hw : fitW w) : impl_WheelTick k w = some (tickR w, ()) := by
  have hM : MM = 1048576 := rfl
  unfold impl_WheelTick tickR tickB
  rw [implOk_eq k hk w hw]
  simp only [Option.bind_some]
  cases h : wheelI w with
  | false => rfl
  | true =>
    have hP := (wheelI_iff w).1 h
    have hnow := hP.now
    simp only [Bool.not_true, Bool.not_false, cond_true, Bool.true_and]
    cases h2 : decide (w.1 = 1000000000000) with
    | true => rfl
    | false =>
      simp only [Bool.not_false, cond_true, cond_false]
      have htk := tick_eq k hk w ⟨by omega, by omega⟩ hP.len hw
      have ha := tick_after hP 0
      rw [after_zero hP] at ha
      rw [ha] at htk
      rw [htk]
      have hl := List.length_filter_le (atB (w.1 + ((0 + 1 : Nat) : Int))) (flatW w)
      have hf := flat_len hP
      simp only [Option.bind_some]
      rw [implIds_run k hk _ _ _ (by omega)]
      rfl
theorem specTick_eq (k : Nat) (hk : MM < k) (w : D_Wheel) (hw : fitW w) : spec_WheelTick k w = some (tickR w, ()) := by
  have hM : MM = 1048576 := rfl
  unfold spec_WheelTick tickR tickB
  rw [specOk_eq k hk w hw, wheel_eq]
  simp only [Option.bind_some]
  cases h : wheelI w with
  | false => rfl
  | true =>
    have hP := (wheelI_iff w).1 h
    have hnow := hP.now
    simp only [Bool.not_true, Bool.not_false, cond_true, Bool.true_and]
    cases h2 : decide (w.1 = 1000000000000) with
    | true => rfl
    | false =>
      simp only [Bool.not_false, cond_true, cond_false]
      rw [all_run k hk w hw.1 (by have := hP.sum; omega)]
      simp only [Option.bind_some]
      rw [show (w.2.1.flatMap (·.1)) = flatW w from rfl, specIds_run k hk w _ hnow _ (flat_len hP)]
      simp only [Option.bind_some]
      rw [w64 (n := w.1 + 1) (by omega), without_eq k hk w hP.len hw]
      have := without_after hP 0
      rw [after_zero hP] at this
      have e : w.2.1.map (fsp (keepS (-1) (w.1 + 1))) = (after w 1).2.1 := this
      simp only [Option.bind_some]
      rw [e]
      rfl
end Go.Tw
