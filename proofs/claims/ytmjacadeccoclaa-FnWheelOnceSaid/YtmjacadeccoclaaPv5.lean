/- Plain facts on the mirrors of the functions are proved here. -/
import Derived.Test.YtmjacadeccoclaaPv4
set_option linter.all false
namespace Go.Tw
open Go Go.RowKit

theorem flat_after (w : D_Wheel) (m : Nat) : flatW (after w m) = (flatW w).filter (fun e => decide (w.1 + (m : Int) < e.2.1)) := flat_fsp _ _
theorem after_P {w : D_Wheel} (P : WheelP w) (m : Nat) (h : w.1 + (m : Int) ≤ 1000000000000) : WheelP (after w m) := by
  have hn := P.now
  refine ⟨⟨by simp only [after]; omega, by simp only [after]; omega⟩, after_len P m, ?_, ?_, ?_⟩
  · have h1 := flat_le (after w m)
    rw [flat_after] at h1
    have h2 := List.length_filter_le (fun e : D_Timer => decide (w.1 + (m : Int) < e.2.1)) (flatW w)
    have h3 := flat_le w
    have := P.sum
    omega
  · intro j s hs e he
    simp only [after, List.getElem?_map, Option.map_eq_some_iff] at hs
    obtain ⟨u, hu, rfl⟩ := hs
    obtain ⟨h1, h2⟩ := List.mem_filter.1 he
    have h3 := P.good j u hu e h1
    unfold goodT at h3 ⊢
    simp only [Bool.and_eq_true, decide_eq_true_eq] at h2 h3 ⊢
    simp only [after]
    exact ⟨h3.1, ⟨by omega, by omega⟩, h3.2.2⟩
  · rw [flat_after]
    exact P.nodup.sublist (List.filter_sublist.map _)
theorem after_one {w : D_Wheel} (i : Nat) : after (after w i) 1 = after w (i + 1) := by
  unfold after
  simp only [List.map_map]
  have e : w.1 + (i : Int) + ((1 : Nat) : Int) = w.1 + ((i + 1 : Nat) : Int) := by omega
  rw [e]
  congr 2
  refine List.map_congr_left fun s hs => ?_
  simp only [Function.comp]
  rw [fsp_comp]
  refine fsp_congr fun e he => ?_
  rw [← Bool.coe_iff_coe]
  simp only [Bool.and_eq_true, decide_eq_true_eq]
  omega
def hitsW (w : D_Wheel) (i : Nat) : List D_Timer := (flatW w).filter (atB (w.1 + ((i + 1 : Nat) : Int)))
theorem tick_at (k : Nat) (hk : MM < k) {w : D_Wheel} (P : WheelP w) (i : Nat) (h : w.1 + ((i + 1 : Nat) : Int) ≤ 1000000000000) : impl_WheelTick k (after w i) = some ((after w (i + 1), (hitsW w i).map (·.1), ()), ()) := by
  have Pi := after_P P i (by omega)
  rw [implTick_eq k hk _ Pi.fit]
  unfold tickR
  have hb : tickB (after w i) = true := by
    unfold tickB
    rw [(wheelI_iff _).2 Pi]
    simp only [Bool.true_and, Bool.not_eq_true', decide_eq_false_iff_not]
    simp only [after]; omega
  rw [hb]
  simp only [cond_true]
  rw [after_one]
  have : tickIds (after w i) = (hitsW w i).map (·.1) := by
    unfold tickIds hitsW
    rw [flat_after, List.filter_filter]
    congr 1
    refine List.filter_congr fun e he => ?_
    have e1 : (after w i).1 + 1 = w.1 + ((i + 1 : Nat) : Int) := by simp only [after]; omega
    rw [← Bool.coe_iff_coe]
    unfold atB
    simp only [Bool.and_eq_true, decide_eq_true_eq, e1]
    omega
  rw [this]
theorem gone_split (w : D_Wheel) : ∀ (N i : Nat), i < N → ∃ R, goneW w N = goneW w i ++ hitsW w i ++ R
  | 0, i, h => by omega
  | N + 1, i, h => by
    by_cases hi : i = N
    · subst hi; exact ⟨[], by simp [goneW, hitsW]⟩
    · obtain ⟨R, e⟩ := gone_split w N i (by omega)
      exact ⟨R ++ (flatW w).filter (atB (w.1 + ((N + 1 : Nat) : Int))), by simp only [goneW]; rw [e]; simp⟩
theorem mid_getD {α : Type} (z : α) (A F R : List α) (i : Nat) (h : i < F.length) : (A ++ F ++ R).getD (A.length + i) z = F.getD i z := by
  rw [getD_at _ z _ (by simp; omega), getD_at _ z _ h, List.getElem_append_left (by simp; omega), List.getElem_append_right (by omega)]
  simp
theorem in7 (k : Nat) (hk : MM < k) (v1 rw w' : D_Wheel) (n i : Int) (A F R : List D_Timer) (hl : (A ++ F ++ R).length ≤ 1048576) (hF : ∀ e ∈ F, e.2.1 = w'.1) :
    iter laws_FnWheelTicks_s18 k ((), v1, n, rw, A ++ F ++ R, ((A.length : Nat) : Int), i, w', F.map (·.1), (0 : Int), ()) = some (Sum.inr ((), v1, n, rw, A ++ F ++ R, ((A.length + F.length : Nat) : Int), i, w', ())) := by
  have hM : MM = 1048576 := rfl
  have hll : A.length + F.length + R.length ≤ 1048576 := by simpa [Nat.add_assoc] using hl
  have hg := mid_getD z_Timer A F R
  have hlen : (A ++ F ++ R).length = A.length + F.length + R.length := by simp [Nat.add_assoc]
  generalize A ++ F ++ R = C at hg hlen ⊢
  have run := search_run (step := laws_FnWheelTicks_s18) (st := fun (j : Nat) => ((), v1, n, rw, C, ((A.length + j : Nat) : Int), i, w', F.map (·.1), (j : Int), ())) (n := F.length) (hit := fun _ => none) (fin := Sum.inr ((), v1, n, rw, C, ((A.length + F.length : Nat) : Int), i, w', ())) (fun j hj rec => by
      unfold laws_FnWheelTicks_s18
      have hlm : (F.map (·.1)).length = F.length := List.length_map _
      have c0 : decide ((j : Int) < (((F.map (·.1)).length : Nat) : Int)) = true := decide_eq_true (by rw [hlm]; omega)
      have c1 : (!decide (((C.length : Nat) : Int) ≤ ((A.length + j : Nat) : Int))) = true := by simp; omega
      have c2 : (decide ((0 : Int) ≤ ((A.length + j : Nat) : Int)) && decide (((A.length + j : Nat) : Int) < ((C.length : Nat) : Int))) = true := by simp; omega
      have c3 : decide ((((A.length + j : Nat) : Int)).toNat < C.length) = true := decide_eq_true (by omega)
      have c4 : (decide ((0 : Int) ≤ (j : Int)) && decide ((j : Int) < (((F.map (·.1)).length : Nat) : Int))) = true := by rw [hlm]; simp; omega
      have c5 : decide ((j : Int).toNat < (F.map (·.1)).length) = true := decide_eq_true (by rw [hlm]; omega)
      have hw1 : IntKind.wrap .i64 (((A.length + j : Nat) : Int) + 1) = ((A.length + (j + 1) : Nat) : Int) := by rw [w64 (by omega)]; omega
      have hw2 : IntKind.wrap .i64 ((j : Int) + 1) = ((j + 1 : Nat) : Int) := w64 (by omega)
      have g1 : C.getD (((A.length + j : Nat) : Int)).toNat z_Timer = F.getD j z_Timer := hg j hj
      have g2 : (F.map (·.1)).getD (j : Int).toNat 0 = (F.getD j z_Timer).1 := by
        show (F.map (·.1)).getD j 0 = _
        rw [getD_at _ (0 : Int) j (by rw [hlm]; exact hj), getD_at _ z_Timer j hj, List.getElem_map]
      have g3 : (F.getD j z_Timer).2.1 = w'.1 := hF _ (getD_mem F z_Timer j hj)
      refine (bif_t c0).trans ?_
      refine (bif_t c1).trans ?_
      refine (bif_t c2).trans ?_
      refine (bif_t c3).trans ?_
      refine (bif_t c4).trans ?_
      refine (bif_t c5).trans ?_
      simp only [g1, g2, g3]
      refine (bif_t (by simp)).trans ?_
      refine (bif_t c2).trans ?_
      refine (bif_t c3).trans ?_
      refine (bif_f (by simp)).trans ?_
      rw [hw1, hw2]
      rfl) (fun rec => by
      unfold laws_FnWheelTicks_s18
      exact bif_f (by simp)) F.length 0 k (by omega) (by omega)
  rw [sch_none] at run
  exact run
theorem out7 (k : Nat) (hk : MM < k) {w : D_Wheel} (P : WheelP w) (N : Nat) (hN : N ≤ 40) (hmax : w.1 + (N : Int) ≤ 1000000000000) :
    iter (laws_FnWheelTicks_s12 k) k ((), w, (N : Int), after w N, goneW w N, (0 : Int), (0 : Int), ()) = some (Sum.inr ((), after w N, after w N, goneW w N, (((goneW w N).length : Nat) : Int), ())) := by
  have hM : MM = 1048576 := rfl
  have hn := P.now
  have hgl := gone_len P N
  have run := search_run (step := laws_FnWheelTicks_s12 k) (st := fun (i : Nat) => ((), after w i, (N : Int), after w N, goneW w N, (((goneW w i).length : Nat) : Int), (i : Int), ())) (n := N) (hit := fun _ => none) (fin := Sum.inr ((), after w N, after w N, goneW w N, (((goneW w N).length : Nat) : Int), ())) (fun i hi rec => by
      unfold laws_FnWheelTicks_s12
      refine (bif_t (by simp; omega)).trans ?_
      refine (congrArg (fun o => Option.bind o _) (tick_at k hk P i (by omega))).trans ?_
      simp only [Option.bind_some]
      have hw0 : IntKind.wrap .i64 ((after w i).1 + 1) = (after w (i + 1)).1 := by
        rw [w64 (by simp only [after]; omega)]
        simp only [after]; omega
      refine (bif_f (by rw [hw0]; simp)).trans ?_
      obtain ⟨R, hR⟩ := gone_split w N i hi
      have hi1 := in7 k hk (after w i) (after w N) (after w (i + 1)) (N : Int) (i : Int) (goneW w i) (hitsW w i) R (by rw [← hR]; omega) (fun e he => by
        have := (List.mem_filter.1 he).2
        unfold atB at this
        simpa [after] using this)
      rw [← hR] at hi1
      refine (congrArg (fun o => Option.bind o _) hi1).trans ?_
      have hw2 : IntKind.wrap .i64 ((i : Int) + 1) = ((i + 1 : Nat) : Int) := w64 (by omega)
      have hgn : (goneW w (i + 1)).length = (goneW w i).length + (hitsW w i).length := by simp [goneW, hitsW]
      rw [hgn]
      simp only [Option.bind_some, Sum.elim_inr, hw2]
      rfl) (fun rec => by
      unfold laws_FnWheelTicks_s12
      exact bif_f (by simp)) N 0 k (by omega) (by omega)
  rw [sch_none] at run
  simp only [after_zero P] at run
  exact run
theorem byte_wf {code : List Int} (hw : WF (.sl (.int .u8)) code) : ∀ v ∈ code, 0 ≤ v ∧ v ≤ 255 := by
  intro v hv
  have := hw.2 v hv
  simpa [WF, inR, IntKind.min, IntKind.max, IntKind.signed, IntKind.bits] using this
theorem big_eq (code : List Int) : laws_big code = some ((decide (1048576 < ((code.length : Nat) : Int)), ()), ()) := rfl
theorem law_FnWheelTicks (code : List Int) (hw : WF (.sl (.int .u8)) code) : ∃ k y, laws_FnWheelTicks k code = some ((true, ()), y) := by
  have hk : MM < (1048577 : Nat) := by decide
  refine ⟨1048577, (), ?_⟩
  revert hk
  generalize (1048577 : Nat) = k
  intro hk
  have hM : MM = 1048576 := rfl
  unfold laws_FnWheelTicks
  rw [big_eq]
  simp only [Option.bind_some]
  cases hbig : decide ((1048576 : Int) < ((code.length : Nat) : Int)) with
  | true => rfl
  | false =>
    have hC : CodeP code := ⟨byte_wf hw, by simp at hbig; omega⟩
    obtain ⟨w, n, e1, S⟩ := drawRun_ok k hk hC
    have hf := S.fit
    have hs := specOk_eq k hk w hf
    rw [wheel_eq] at hs
    have hi := implOk_eq k hk w hf
    simp only [e1, hs, hi, Option.bind_some, cond_false]
    cases hW : wheelI w with
    | false => rfl
    | true =>
      have P := (wheelI_iff w).1 hW
      have hn := P.now
      simp only [BEq.rfl, Bool.not_true, Bool.not_false, cond_false, cond_true]
      by_cases h1 : n < 0
      · rw [bif_f (by simpa using h1)]
      rw [bif_t (by simpa using h1)]
      by_cases h2 : 40 < n
      · rw [bif_f (by simpa using h2)]
      rw [bif_t (by simpa using h2)]
      have hw1 : IntKind.wrap .i64 (w.1 + n) = w.1 + n := w64 (by omega)
      rw [hw1]
      by_cases h3 : 1000000000000 < w.1 + n
      · rw [bif_t (decide_eq_true h3)]
      rw [bif_f (decide_eq_false h3)]
      obtain ⟨N, rfl⟩ : ∃ N : Nat, n = (N : Int) := ⟨n.toNat, by omega⟩
      have hr := implWheelRun_eq k hk w hf (N : Int)
      have hrr : runR w (N : Int) = (after w N, goneW w N, ()) := by
        unfold runR runB
        rw [hW]
        rw [show (true && ((decide ((0 : Int) ≤ (N : Int)) && decide ((N : Int) ≤ 1000)) && decide (w.1 + (N : Int) ≤ 1000000000000))) = true by simp; omega]
        rfl
      rw [hrr] at hr
      have hl := out7 k hk P N (by omega) (by omega)
      have PN := after_P P N (by omega)
      have g1 := nextImpl_eq k hk _ PN.fit
      have g2 := nextSpec_eq k hk _ PN.fit
      simp only [hr, Option.bind_some]
      refine (congrArg (fun o => Option.bind o _) hl).trans ?_
      simp only [Option.bind_some, Sum.elim_inr]
      refine (bif_t (by simp)).trans ?_
      simp only [g1, g2, Option.bind_some]
      refine (bif_t (by simp)).trans ?_
      refine (bif_t (by simp)).trans ?_
      simp
end Go.Tw
