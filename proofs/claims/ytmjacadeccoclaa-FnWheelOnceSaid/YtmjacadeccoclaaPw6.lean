/- Plain facts on the mirrors of the functions are proved here. -/
import Derived.Test.YtmjacadeccoclaaPw5
set_option linter.all false
namespace Go.Tw
open Go Go.RowKit

def after (w : D_Wheel) (m : Nat) : D_Wheel := (w.1 + (m : Int), w.2.1.map (fsp fun e => decide (w.1 + (m : Int) < e.2.1)), ())
def goneW (w : D_Wheel) : Nat → List D_Timer
  | 0 => []
  | m + 1 => goneW w m ++ (flatW w).filter (atB (w.1 + ((m + 1 : Nat) : Int)))
theorem fsp_comp (p q : D_Timer → Bool) (s : D_Spoke) : fsp p (fsp q s) = fsp (fun e => p e && q e) s := by
  unfold fsp; simp [List.filter_filter]
theorem fsp_congr {p q : D_Timer → Bool} {s : D_Spoke} (h : ∀ e ∈ s.1, p e = q e) : fsp p s = fsp q s := by
  unfold fsp; rw [List.filter_congr h]
theorem fsp_self {p : D_Timer → Bool} {s : D_Spoke} (h : ∀ e ∈ s.1, p e = true) : fsp p s = s := by
  unfold fsp; rw [List.filter_eq_self.2 h]
theorem WheelP.at {w : D_Wheel} (h : WheelP w) {s : D_Spoke} (hs : s ∈ w.2.1) {e : D_Timer} (he : e ∈ s.1) : (0 ≤ e.1 ∧ e.1 ≤ 9999) ∧ w.1 + 1 ≤ e.2.1 ∧ e.2.1 ≤ w.1 + 1000 := by
  obtain ⟨j, hj⟩ := List.mem_iff_getElem?.1 hs
  have := h.good j s hj e he
  unfold goodT at this
  simp only [Bool.and_eq_true, decide_eq_true_eq] at this
  exact ⟨this.1, this.2.1⟩
theorem WheelP.mod {w : D_Wheel} (h : WheelP w) : ModP w := by
  intro j s hj e he
  have := h.good j s hj e he
  unfold goodT at this
  simp only [Bool.and_eq_true, decide_eq_true_eq] at this
  simpa using this.2.2
theorem WheelP.fit {w : D_Wheel} (h : WheelP w) : fitW w := ⟨by have := h.len; omega, fun s hs => by have := sumW_le _ s hs; have := h.sum; omega⟩
theorem after_zero {w : D_Wheel} (h : WheelP w) : after w 0 = w := by
  unfold after
  have : w.2.1.map (fsp fun e => decide (w.1 + ((0 : Nat) : Int) < e.2.1)) = w.2.1 := by
    rw [show w.2.1.map (fsp fun e => decide (w.1 + ((0 : Nat) : Int) < e.2.1)) = w.2.1.map id from List.map_congr_left fun s hs => fsp_self fun e he => by
      have := (h.at hs he).2.1
      simp; omega]
    simp
  rw [this]; simp
theorem after_len {w : D_Wheel} (h : WheelP w) (m : Nat) : (after w m).2.1.length = 8 := by simp [after, h.len]
theorem after_fit {w : D_Wheel} (h : WheelP w) (m : Nat) : fitW (after w m) := by
  refine ⟨by rw [after_len h]; omega, fun s hs => ?_⟩
  obtain ⟨t, ht, rfl⟩ := List.mem_map.1 hs
  have := h.fit.2 t ht
  have := List.length_filter_le (fun e : D_Timer => decide (w.1 + (m : Int) < e.2.1)) t.1
  simp only [fsp]; omega
theorem after_mod {w : D_Wheel} (h : WheelP w) (m : Nat) : ModP (after w m) := by
  intro j s hj e he
  simp only [after, List.getElem?_map, Option.map_eq_some_iff] at hj
  obtain ⟨t, ht, rfl⟩ := hj
  exact h.mod j t ht e (List.mem_filter.1 he).1
theorem flat_fsp (p : D_Timer → Bool) : ∀ ss : List D_Spoke, (ss.map (fsp p)).flatMap (·.1) = (ss.flatMap (·.1)).filter p
  | [] => rfl
  | s :: ss => by simp only [List.map_cons, List.flatMap_cons, List.filter_append, flat_fsp p ss]; rfl
theorem tick_after {w : D_Wheel} (h : WheelP w) (m : Nat) : tickW (after w m) = (after w (m + 1), (flatW w).filter (atB (w.1 + ((m + 1 : Nat) : Int)))) := by
  have hnow := h.now
  have e1 : (after w m).1 + 1 = w.1 + ((m + 1 : Nat) : Int) := by simp only [after]; omega
  unfold tickW
  rw [spoke_flat (after w m) (after_len h m) (after_mod h m) _ (by rw [e1]; omega), e1]
  congr 1
  · unfold after
    simp only [List.map_map]
    congr 2
    refine List.map_congr_left fun s hs => ?_
    simp only [Function.comp]
    rw [fsp_comp]
    refine fsp_congr fun e he => ?_
    unfold atB
    rw [Bool.eq_iff_iff]
    simp; omega
  · unfold flatW
    show ((w.2.1.map (fsp fun e => decide (w.1 + (m : Int) < e.2.1))).flatMap (·.1)).filter _ = _
    rw [flat_fsp, List.filter_filter]
    refine List.filter_congr fun e he => ?_
    unfold atB
    rw [Bool.eq_iff_iff]
    simp; omega
theorem without_after {w : D_Wheel} (h : WheelP w) (m : Nat) : (after w m).2.1.map (fsp (keepS (-1) (w.1 + ((m + 1 : Nat) : Int)))) = (after w (m + 1)).2.1 := by
  unfold after
  simp only [List.map_map]
  refine List.map_congr_left fun s hs => ?_
  simp only [Function.comp]
  rw [fsp_comp]
  refine fsp_congr fun e he => ?_
  have := h.at hs he
  unfold keepS
  rw [Bool.eq_iff_iff]
  simp; omega
theorem without_zero {w : D_Wheel} (h : WheelP w) : w.2.1.map (fsp (keepS (-1) (-1))) = w.2.1 := by
  rw [show w.2.1.map (fsp (keepS (-1) (-1))) = w.2.1.map id from List.map_congr_left fun s hs => fsp_self fun e he => by
    have h1 := h.at hs he
    have h2 := h.now
    unfold keepS
    simp; omega]
  simp
theorem flat_len {w : D_Wheel} (h : WheelP w) : (flatW w).length ≤ 64 := by unfold flatW; rw [sumW_flat]; exact h.sum
theorem gone_len {w : D_Wheel} (h : WheelP w) : ∀ m, (goneW w m).length ≤ 64 * m
  | 0 => by simp [goneW]
  | m + 1 => by
    have h1 := gone_len h m
    have h2 := flat_len h
    have h3 := List.length_filter_le (atB (w.1 + ((m + 1 : Nat) : Int))) (flatW w)
    simp only [goneW, List.length_append]; omega

theorem implRun_eq (k : Nat) (hk : MM < k) (w : D_Wheel) (h : WheelP w) (n : Nat) (hn : n ≤ 1000) :
    iter (impl_WheelRun_s5 k) k ((), ((0 : Int), ([] : List D_Spoke), ()), w, ([] : List D_Timer), (n : Int), (0 : Int), ()) = some ((), ((0 : Int), ([] : List D_Spoke), ()), after w n, goneW w n, ()) := by
  have hM : MM = 1048576 := rfl
  have run := search_run (step := impl_WheelRun_s5 k) (st := fun i => ((), (((0 : Int), ([] : List D_Spoke), ()) : D_Wheel), after w i, goneW w i, (n : Int), (i : Int), ())) (n := n) (hit := fun i => none) (fin := ((), (((0 : Int), ([] : List D_Spoke), ()) : D_Wheel), after w n, goneW w n, ())) (fun i hi rec => by
      unfold impl_WheelRun_s5
      refine (bif_t (by simp; omega)).trans ?_
      have hnow := h.now
      have htk := tick_eq k hk (after w i) ⟨by simp only [after]; omega, by simp only [after]; omega⟩ (after_len h i) (after_fit h i)
      rw [tick_after h i] at htk
      refine (congrArg (fun o => Option.bind o _) htk).trans ?_
      simp only [Option.bind_some]
      have h1 := gone_len h (i + 1)
      simp only [goneW, List.length_append] at h1
      refine (bif_t (by simp only [decide_eq_true_eq]; omega)).trans ?_
      have hwi : IntKind.wrap .i64 ((i : Int) + 1) = ((i + 1 : Nat) : Int) := w64 (by omega)
      rw [hwi]
      rfl) (fun rec => by
      unfold impl_WheelRun_s5
      exact bif_f (by simp)) n 0 k (by omega) (by omega)
  have sn : ∀ (m i : Nat) (fin : Unit × (D_Wheel × (D_Wheel × D_Spoke))), sch (fun _ => none) fin m i = fin := by
    intro m
    induction m with
    | zero => intro i fin; rfl
    | succ m ih => intro i fin; simp only [sch]; exact ih _ _
  rw [sn] at run
  simp only [after_zero h] at run
  exact run

theorem specIn_run (k : Nat) (hk : MM < k) (n : Int) (w d out : D_Wheel) (all : List D_Timer) (ha : all.length ≤ 64) (g : List D_Timer) (hg : g.length ≤ 64000) (t : Int) :
    iter spec_WheelRun_s10 k ((), n, w, d, all, g, out, t, (0 : Int), ()) = some ((), n, w, d, all, g ++ all.filter (atB t), out, t, ()) := by
  have hM : MM = 1048576 := rfl
  have run := thru_run0 (step := spec_WheelRun_s10) (x := all) z_Timer (st := fun j a => ((), n, w, d, all, a, out, t, (j : Int), ()))
    (g := fun _ e a => bif atB t e then a ++ [e] else a) (fin := fun a => ((), n, w, d, all, a, out, t, ())) (fun j a => a.length ≤ 64000 + j)
    (fun j a hj hI rec => by
      unfold spec_WheelRun_s10
      refine (bif_t (by simp; omega)).trans ?_
      refine (bif_t (by simp; omega)).trans ?_
      refine (bif_t (by simp; omega)).trans ?_
      have hwi : IntKind.wrap .i64 ((j : Int) + 1) = ((j + 1 : Nat) : Int) := w64 (by omega)
      have hb0 : ((decide ((0 : Int) ≤ (j : Int))) && (decide ((j : Int) < ((all.length : Nat) : Int)))) = true := by simp; omega
      have hb1 : decide ((j : Int).toNat < all.length) = true := by simp; omega
      obtain ⟨e, he⟩ : ∃ e, e = all.getD (j : Int).toNat z_Timer := ⟨_, rfl⟩
      have he' : e = all.getD j z_Timer := he
      rw [← he, ← he']
      have hb : decide ((a.length + 1) * 16 ≤ 1099511627776) = true := by simp; omega
      unfold atB
      simp only [hwi, hb, hb0, hb1]
      generalize decide (e.2.1 = t) = b1
      cases b1 <;> rfl)
    (fun j a hj hI => by
      cases atB t (all.getD j z_Timer) <;> simp <;> omega) (fun a _ rec => by
      unfold spec_WheelRun_s10
      exact bif_f (by simp)) (k := k) (by omega) (a := g) (by omega)
  rw [thru_filter] at run
  exact run
theorem specRun_eq (k : Nat) (hk : MM < k) (w : D_Wheel) (h : WheelP w) (n : Nat) (hn : n ≤ 1000) (hmax : w.1 + (n : Int) ≤ 1000000000000) :
    iter (spec_WheelRun_s7 k) k ((), (n : Int), w, ((0 : Int), ([] : List D_Spoke), ()), flatW w, ([] : List D_Timer), w, IntKind.wrap .i64 (w.1 + 1), ()) = some ((), ((0 : Int), ([] : List D_Spoke), ()), goneW w n, after w n, ()) := by
  have hM : MM = 1048576 := rfl
  have hnow := h.now
  have run := search_run (step := spec_WheelRun_s7 k) (st := fun i => ((), (n : Int), w, (((0 : Int), ([] : List D_Spoke), ()) : D_Wheel), flatW w, goneW w i, after w i, w.1 + ((i + 1 : Nat) : Int), ())) (n := n) (hit := fun i => none) (fin := ((), (((0 : Int), ([] : List D_Spoke), ()) : D_Wheel), goneW w n, after w n, ())) (fun i hi rec => by
      unfold spec_WheelRun_s7
      have hwn : IntKind.wrap .i64 (w.1 + (n : Int)) = w.1 + (n : Int) := w64 (by omega)
      refine (bif_t (by simp only [hwn]; simp; omega)).trans ?_
      have hg := gone_len h i
      refine (congrArg (fun o => Option.bind o _) (specIn_run k hk (n : Int) w _ (after w i) (flatW w) (flat_len h) (goneW w i) (by omega) (w.1 + ((i + 1 : Nat) : Int)))).trans ?_
      simp only [Option.bind_some]
      refine (congrArg (fun o => Option.bind o _) (without_eq k hk (after w i) (after_len h i) (after_fit h i) _ _ _)).trans ?_
      simp only [Option.bind_some]
      rw [without_after h i]
      have hwi : IntKind.wrap .i64 (w.1 + ((i + 1 : Nat) : Int) + 1) = w.1 + ((i + 1 + 1 : Nat) : Int) := by rw [w64 (by omega)]; omega
      rw [hwi]
      rfl) (fun rec => by
      unfold spec_WheelRun_s7
      have hwn : IntKind.wrap .i64 (w.1 + (n : Int)) = w.1 + (n : Int) := w64 (by omega)
      exact bif_f (by simp only [hwn]; simp; omega)) n 0 k (by omega) (by omega)
  have sn : ∀ (m i : Nat) (fin : Unit × (D_Wheel × ((List D_Timer) × (D_Wheel × Unit)))), sch (fun _ => none) fin m i = fin := by
    intro m
    induction m with
    | zero => intro i fin; rfl
    | succ m ih => intro i fin; simp only [sch]; exact ih _ _
  rw [sn] at run
  simp only [after_zero h] at run
  have hw1 : IntKind.wrap .i64 (w.1 + 1) = w.1 + ((0 + 1 : Nat) : Int) := by rw [w64 (by omega)]; rfl
  rw [hw1]
  exact run
def noneW : D_Wheel × List D_Timer × Unit := (((0 : Int), ([] : List D_Spoke), ()), ([] : List D_Timer), ())
def runB (w : D_Wheel) (n : Int) : Bool := wheelI w && ((decide (0 ≤ n) && decide (n ≤ 1000)) && decide (w.1 + n ≤ 1000000000000))
def runR (w : D_Wheel) (n : Int) : D_Wheel × List D_Timer × Unit := bif runB w n then (after w n.toNat, goneW w n.toNat, ()) else noneW
theorem implWheelRun_eq (k : Nat) (hk : MM < k) (w : D_Wheel) (hw : fitW w) (n : Int) : impl_WheelRun k w n = some (runR w n, ()) := by
  unfold impl_WheelRun runR runB
  rw [implOk_eq k hk w hw]
  simp only [Option.bind_some]
  cases h : wheelI w with
  | false => rfl
  | true =>
    have hP := (wheelI_iff w).1 h
    have hnow := hP.now
    simp only [Bool.not_true, Bool.not_false, cond_true, Bool.true_and, within_eq, Option.bind_some]
    by_cases h0 : 0 ≤ n
    · by_cases h1 : n ≤ 1000
      · have e1 : (decide (0 ≤ n) && decide (n ≤ 1000)) = true := by simp [h0, h1]
        have hwn : IntKind.wrap .i64 (w.1 + n) = w.1 + n := w64 (by omega)
        rw [e1, hwn]
        by_cases h2 : w.1 + n ≤ 1000000000000
        · simp only [Bool.not_true, Bool.not_false, cond_true, Bool.true_and]
          rw [bif_f (by simp; omega), copy1_eq k hk w hw, decide_eq_true h2]
          obtain ⟨m, rfl⟩ : ∃ m : Nat, n = (m : Int) := ⟨n.toNat, by omega⟩
          simp only [Option.bind_some, implRun_eq k hk w hP m (by omega), cond_true, Int.toNat_natCast]
        · simp only [Bool.not_true, Bool.not_false, cond_true, Bool.true_and]
          rw [bif_t (by simp; omega), decide_eq_false h2]; rfl
      · rw [decide_eq_false h1]; simp; rfl
    · rw [decide_eq_false h0]; simp; rfl
theorem specWheelRun_eq (k : Nat) (hk : MM < k) (w : D_Wheel) (hw : fitW w) (n : Int) : spec_WheelRun k w n = some (runR w n, ()) := by
  unfold spec_WheelRun runR runB
  rw [specOk_eq k hk w hw, wheel_eq]
  simp only [Option.bind_some]
  cases h : wheelI w with
  | false => rfl
  | true =>
    have hP := (wheelI_iff w).1 h
    have hnow := hP.now
    simp only [Bool.not_true, Bool.not_false, cond_true, Bool.true_and]
    by_cases h0 : 0 ≤ n
    · by_cases h1 : n ≤ 1000
      · have hwn : IntKind.wrap .i64 (w.1 + n) = w.1 + n := w64 (by omega)
        rw [hwn, decide_eq_true h0, decide_eq_true h1]
        rw [bif_t (by simp; omega), bif_t (by simp; omega)]
        by_cases h2 : w.1 + n ≤ 1000000000000
        · rw [bif_f (by simp; omega), decide_eq_true h2, all_run k hk w hw.1 (by have := hP.sum; omega)]
          simp only [Option.bind_some]
          rw [without_eq k hk w hP.len hw, without_zero hP]
          simp only [Option.bind_some]
          obtain ⟨m, rfl⟩ : ∃ m : Nat, n = (m : Int) := ⟨n.toNat, by omega⟩
          have hww : ((w.1, w.2.1, ()) : D_Wheel) = w := rfl
          rw [hww, show (w.2.1.flatMap (·.1)) = flatW w from rfl, specRun_eq k hk w hP m (by omega) h2]
          simp
        · rw [bif_t (by simp; omega), decide_eq_false h2]; rfl
      · rw [bif_t (by simp; omega), bif_f (by simp; omega), decide_eq_false h1]; simp; rfl
    · rw [bif_f (by simp; omega), decide_eq_false h0]; simp; rfl
end Go.Tw
