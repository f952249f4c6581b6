/- Plain facts on the mirrors of the functions are proved here. -/
import Derived.Test.YtmjacadeccoclaaPv2
set_option linter.all false
namespace Go.Tw
open Go Go.RowKit

def zW : D_Wheel := ((0 : Int), ([] : List D_Spoke), ())
def outW (w : D_Wheel) (id : Int) : D_Wheel := (w.1, w.2.1.map (fsp fun e => !idB id e), ())
def putSs (ss : List D_Spoke) (id t : Int) : List D_Spoke := ss.set (Int.tmod t 8).toNat ((ss.getD (Int.tmod t 8).toNat z_Spoke).1 ++ [(id, t, ())], ())
def putW (w : D_Wheel) (id t : Int) : D_Wheel := (w.1, putSs (outW w id).2.1 id t, ())
def setC (w : D_Wheel) (id t : Int) : Int :=
  bif wheelI w && (decide (0 ≤ id) && decide (id ≤ 9999)) then
    bif decide (w.1 + 1 ≤ t) && decide (t ≤ w.1 + 1000) then
      bif !hasB w id && decide (sumW w.2.1 = 64) then 3 else 0
    else 2
  else 1
def setR (w : D_Wheel) (id t : Int) : D_Wheel × Int × Unit := bif decide (setC w id t = 0) then (putW w id t, 0, ()) else (zW, setC w id t, ())
theorem out_keep {w : D_Wheel} (P : WheelP w) (id : Int) : w.2.1.map (fsp (keepS id (-1))) = w.2.1.map (fsp fun e => !idB id e) := by
  refine List.map_congr_left fun s hs => fsp_congr fun e he => ?_
  have := (P.at hs he).2.1
  have hn := P.now.1
  unfold keepS idB
  have : decide (e.2.1 = -1) = false := decide_eq_false (by omega)
  rw [this]; simp
theorem fsp_len (p : D_Timer → Bool) (s : D_Spoke) : (fsp p s).1.length ≤ s.1.length := List.length_filter_le _ _
theorem out_len {w : D_Wheel} (P : WheelP w) (id : Int) : (w.2.1.map (fsp fun e => !idB id e)).length = 8 := by simp [P.len]
theorem out_spoke {w : D_Wheel} (P : WheelP w) (id : Int) (i : Nat) (hi : i < 8) : ((w.2.1.map (fsp fun e => !idB id e)).getD i z_Spoke).1.length ≤ 64 := by
  have hl := P.len
  rw [getD_at _ z_Spoke i (by rw [out_len P]; exact hi), List.getElem_map]
  have h1 := fsp_len (fun e => !idB id e) (w.2.1[i]'(by omega))
  have h2 := sumW_le w.2.1 _ (List.getElem_mem (l := w.2.1) (n := i) (by omega))
  have := P.sum
  omega
theorem specSet_eq (k : Nat) (hk : MM < k) (w : D_Wheel) (hw : fitW w) (id t : Int) : spec_WheelSet k w id t = some (setR w id t, ()) := by
  have hM : MM = 1048576 := rfl
  unfold spec_WheelSet setR setC
  rw [specOk_eq k hk w hw, wheel_eq]
  simp only [Option.bind_some]
  cases h : wheelI w with
  | false => rfl
  | true =>
    have P := (wheelI_iff w).1 h
    have hn := P.now
    have h8 := P.len
    have hs : sumW w.2.1 ≤ 1048576 := by have := P.sum; omega
    have hfl := flat_le w
    have hwn : IntKind.wrap .i64 (w.1 + 1000) = w.1 + 1000 := w64 (by omega)
    simp only [Bool.not_true, Bool.not_false, cond_true, Bool.true_and]
    by_cases h1 : id < 0
    · rw [bif_f (by simpa using h1), show (decide (0 ≤ id) && decide (id ≤ 9999)) = false by simp; omega]; rfl
    rw [bif_t (by simpa using h1)]
    by_cases h2 : 9999 < id
    · rw [bif_t (decide_eq_true h2), show (decide (0 ≤ id) && decide (id ≤ 9999)) = false by simp; omega]; rfl
    rw [bif_f (decide_eq_false h2), show (decide (0 ≤ id) && decide (id ≤ 9999)) = true by simp; omega]
    by_cases h3 : t ≤ w.1
    · rw [bif_f (by simpa using h3), show (decide (w.1 + 1 ≤ t) && decide (t ≤ w.1 + 1000)) = false by simp; omega]; rfl
    rw [bif_t (by simpa using h3), hwn]
    by_cases h4 : w.1 + 1000 < t
    · rw [bif_t (decide_eq_true h4), show (decide (w.1 + 1 ≤ t) && decide (t ≤ w.1 + 1000)) = false by simp; omega]; rfl
    rw [bif_f (decide_eq_false h4), show (decide (w.1 + 1 ≤ t) && decide (t ≤ w.1 + 1000)) = true by simp; omega]
    rw [hasSpec_eq k hk w hw.1 hs id]
    have hm := tmod8 (n := t) (by omega)
    have hsp := out_spoke P id (Int.tmod t 8).toNat (by omega)
    have hol := out_len P id
    have e1 : (decide ((0 : Int) ≤ Int.tmod t 8) && decide (Int.tmod t 8 < (((w.2.1.map (fsp fun e => !idB id e)).length : Nat) : Int))) = true := by rw [hol]; simp; omega
    have e2 : decide ((Int.tmod t 8).toNat < (w.2.1.map (fsp fun e => !idB id e)).length) = true := by rw [hol]; exact decide_eq_true (by omega)
    have e3 : decide ((((w.2.1.map (fsp fun e => !idB id e)).getD (Int.tmod t 8).toNat z_Spoke).1.length + 1) * 16 ≤ 1099511627776) = true := decide_eq_true (by omega)
    have e4 : decide ((Int.tmod t 8).toNat = (Int.tmod t 8).toNat) = true := decide_eq_true rfl
    simp only [Option.bind_some]
    cases hb : hasB w id with
    | true =>
      simp only [Bool.not_true, cond_false, without_eq k hk w h8 hw, Option.bind_some, out_keep P, e1, e2, e3, e4, cond_true]
      rfl
    | false =>
      rw [all_run k hk w hw.1 hs]
      simp only [Bool.not_false, cond_true, Option.bind_some]
      by_cases h5 : sumW w.2.1 = 64
      · have : decide ((((w.2.1.flatMap (·.1)).length : Nat) : Int) = 64) = true := decide_eq_true (by rw [sumW_flat, h5]; rfl)
        rw [bif_t this, show decide (sumW w.2.1 = 64) = true from decide_eq_true h5]; rfl
      · have : decide ((((w.2.1.flatMap (·.1)).length : Nat) : Int) = 64) = false := decide_eq_false (by rw [sumW_flat]; omega)
        rw [bif_f this, show decide (sumW w.2.1 = 64) = false from decide_eq_false h5]
        simp only [without_eq k hk w h8 hw, Option.bind_some, out_keep P, e1, e2, e3, e4, cond_true]
        rfl
theorem implSet_eq (k : Nat) (hk : MM < k) (w : D_Wheel) (hw : fitW w) (id t : Int) : impl_WheelSet k w id t = some (setR w id t, ()) := by
  have hM : MM = 1048576 := rfl
  unfold impl_WheelSet setR setC
  rw [implOk_eq k hk w hw, within_eq]
  simp only [Option.bind_some]
  cases h : wheelI w with
  | false => rfl
  | true =>
    have P := (wheelI_iff w).1 h
    have hn := P.now
    have h8 := P.len
    have hs : sumW w.2.1 ≤ 1048576 := by have := P.sum; omega
    have hfl := flat_le w
    rw [ahead_eq w hn t]
    simp only [Bool.not_true, Bool.not_false, cond_true, Bool.true_and, Option.bind_some]
    cases h1 : (decide (0 ≤ id) && decide (id ≤ 9999)) with
    | false => rfl
    | true =>
    simp only [Bool.not_true, cond_false, cond_true]
    cases h3 : (decide (w.1 + 1 ≤ t) && decide (t ≤ w.1 + 1000)) with
    | false => rfl
    | true =>
    simp only [Bool.and_eq_true, decide_eq_true_eq] at h3
    simp only [Bool.not_true, cond_false, cond_true]
    rw [hasImpl_eq k hk w hw.1 hs id]
    have hm := tmod8 (n := t) (by omega)
    have hsp := out_spoke P id (Int.tmod t 8).toNat (by omega)
    have hol := out_len P id
    have e1 : (decide ((0 : Int) ≤ Int.tmod t 8) && decide (Int.tmod t 8 < (((w.2.1.map (fsp fun e => !idB id e)).length : Nat) : Int))) = true := by rw [hol]; simp; omega
    have e2 : decide ((Int.tmod t 8).toNat < (w.2.1.map (fsp fun e => !idB id e)).length) = true := by rw [hol]; exact decide_eq_true (by omega)
    have e3 : decide ((((w.2.1.map (fsp fun e => !idB id e)).getD (Int.tmod t 8).toNat z_Spoke).1.length + 1) * 16 ≤ 1099511627776) = true := decide_eq_true (by omega)
    have e4 : decide ((Int.tmod t 8).toNat = (Int.tmod t 8).toNat) = true := decide_eq_true rfl
    simp only [Option.bind_some]
    cases hb : hasB w id with
    | true =>
      simp only [Bool.not_true, cond_false, copy_eq_2 k hk w hw, Option.bind_some, e1, e2, e3, e4, cond_true]
      rfl
    | false =>
      rw [timers_eq k hk w hw.1 hs]
      simp only [Bool.not_false, cond_true, Option.bind_some]
      by_cases h5 : sumW w.2.1 = 64
      · have : decide ((((flatW w).length : Nat) : Int) = 64) = true := decide_eq_true (by rw [hfl, h5]; rfl)
        rw [bif_t this, show decide (sumW w.2.1 = 64) = true from decide_eq_true h5]; rfl
      · have : decide ((((flatW w).length : Nat) : Int) = 64) = false := decide_eq_false (by rw [hfl]; omega)
        rw [bif_f this, show decide (sumW w.2.1 = 64) = false from decide_eq_false h5]
        simp only [copy_eq_2 k hk w hw, Option.bind_some, e1, e2, e3, e4, cond_true]
        rfl
def dropR (w : D_Wheel) (id : Int) : D_Wheel × Int × Unit := bif wheelI w then (bif hasB w id then (outW w id, 0, ()) else (zW, 4, ())) else (zW, 1, ())
theorem implDrop_eq (k : Nat) (hk : MM < k) (w : D_Wheel) (hw : fitW w) (id : Int) : impl_WheelDrop k w id = some (dropR w id, ()) := by
  have hM : MM = 1048576 := rfl
  unfold impl_WheelDrop dropR
  rw [implOk_eq k hk w hw]
  simp only [Option.bind_some]
  cases h : wheelI w with
  | false => rfl
  | true =>
    have P := (wheelI_iff w).1 h
    have hs : sumW w.2.1 ≤ 1048576 := by have := P.sum; omega
    rw [hasImpl_eq k hk w hw.1 hs id, copy_eq_3 k hk w hw id]
    simp only [Bool.not_true, cond_false, cond_true, Option.bind_some]
    cases hasB w id <;> rfl
/-! What is put stands there. -/
theorem set_perm (e : D_Timer) : ∀ (ss : List D_Spoke) (c : Nat), c < ss.length → ((ss.set c ((ss.getD c z_Spoke).1 ++ [e], ())).flatMap (·.1)).Perm (e :: ss.flatMap (·.1))
  | [], c, h => by simp at h
  | s :: ss, 0, h => by
    simp only [List.set_cons_zero, List.getD_cons_zero, List.flatMap_cons, List.append_assoc]
    exact List.perm_middle
  | s :: ss, c + 1, h => by
    simp only [List.set_cons_succ, List.getD_cons_succ, List.flatMap_cons]
    exact ((set_perm e ss c (by simpa using h)).append_left s.1).trans List.perm_middle
theorem flat_out (w : D_Wheel) (id : Int) : flatW (outW w id) = (flatW w).filter (fun e => !idB id e) := flat_fsp _ _
theorem flat_put {w : D_Wheel} (P : WheelP w) (id t : Int) (ht : 0 ≤ t) : (flatW (putW w id t)).Perm ((id, t, ()) :: (flatW w).filter (fun e => !idB id e)) := by
  have hm := tmod8 ht
  have := set_perm (id, t, ()) (outW w id).2.1 (Int.tmod t 8).toNat (by unfold outW; simp only; rw [out_len P]; omega)
  rw [← flat_out]
  exact this
theorem out_P {w : D_Wheel} (P : WheelP w) (id : Int) : WheelP (outW w id) := by
  refine ⟨P.now, out_len P id, ?_, ?_, ?_⟩
  · have h1 := flat_le (outW w id)
    rw [flat_out] at h1
    have h2 := List.length_filter_le (fun e => !idB id e) (flatW w)
    have h3 := flat_le w
    have := P.sum
    omega
  · intro j s hs e he
    simp only [outW, List.getElem?_map, Option.map_eq_some_iff] at hs
    obtain ⟨u, hu, rfl⟩ := hs
    exact P.good j u hu e (List.mem_filter.1 he).1
  · rw [flat_out]
    exact P.nodup.sublist (List.filter_sublist.map _)
theorem set_code {w : D_Wheel} {id t : Int} (h : setC w id t = 0) : WheelP w ∧ (0 ≤ id ∧ id ≤ 9999) ∧ (w.1 + 1 ≤ t ∧ t ≤ w.1 + 1000) ∧ (hasB w id = true ∨ sumW w.2.1 ≠ 64) := by
  unfold setC at h
  cases h1 : (wheelI w && (decide (0 ≤ id) && decide (id ≤ 9999))) with
  | false => rw [h1] at h; cases h
  | true =>
    rw [h1] at h
    simp only [cond_true] at h
    cases h2 : (decide (w.1 + 1 ≤ t) && decide (t ≤ w.1 + 1000)) with
    | false => rw [h2] at h; cases h
    | true =>
      rw [h2] at h
      simp only [cond_true] at h
      cases h3 : (!hasB w id && decide (sumW w.2.1 = 64)) with
      | true => rw [h3] at h; cases h
      | false =>
        simp only [Bool.and_eq_true, decide_eq_true_eq] at h1 h2
        refine ⟨(wheelI_iff w).1 h1.1, h1.2, h2, ?_⟩
        simp only [Bool.and_eq_false_iff, Bool.not_eq_false', decide_eq_false_iff_not] at h3
        exact h3
theorem put_P {w : D_Wheel} {id t : Int} (h : setC w id t = 0) : WheelP (putW w id t) := by
  obtain ⟨P, hid, ht, h64⟩ := set_code h
  have hn := P.now
  have hm := tmod8 (n := t) (by omega)
  have hp := flat_put P id t (by omega)
  have Po := out_P P id
  have hol : (outW w id).2.1.length = 8 := Po.len
  refine ⟨P.now, by unfold putW putSs; simp only [List.length_set]; exact hol, ?_, ?_, ?_⟩
  · have h1 := flat_le (putW w id t)
    have h2 := hp.length_eq
    simp only [List.length_cons] at h2
    have h3 := flat_le w
    have h4 := P.sum
    have h5 : ((flatW w).filter (fun e => !idB id e)).length < 64 := by
      rcases h64 with hb | hb
      · have h6 : ((flatW w).filter (fun e => !idB id e)).length < (flatW w).length := by
          refine List.length_filter_lt_length_iff_exists.2 ?_
          unfold hasB at hb
          obtain ⟨e, he, hb⟩ := List.any_eq_true.1 hb
          exact ⟨e, he, by simp [hb]⟩
        omega
      · have := List.length_filter_le (fun e => !idB id e) (flatW w)
        omega
    omega
  · intro j s hs e he
    have hgood : ∀ (j : Nat) s, (outW w id).2.1[j]? = some s → ∀ e ∈ s.1, goodT w.1 ((0 + j : Nat) : Int) e = true := Po.good
    simp only [putW, putSs, List.getElem?_set] at hs
    split at hs
    · rename_i hj
      rw [if_pos (by rw [hol]; omega)] at hs
      simp only [Option.some.injEq] at hs; subst hs
      simp only at he
      rcases List.mem_append.1 he with he | he
      · have hlt : (Int.tmod t 8).toNat < (outW w id).2.1.length := by rw [hol]; omega
        rw [getD_at _ z_Spoke _ hlt] at he
        exact hgood j _ (by rw [← hj]; exact List.getElem?_eq_getElem hlt) e he
      · simp only [List.mem_singleton] at he
        subst he
        unfold goodT
        simp only [Bool.and_eq_true, decide_eq_true_eq]
        refine ⟨hid, ht, ?_⟩
        show Int.tmod t 8 = ((0 + j : Nat) : Int)
        omega
    · exact hgood j s hs e he
  · rw [(hp.map (·.1)).nodup_iff]
    simp only [List.map_cons, List.nodup_cons]
    refine ⟨fun hmem => ?_, P.nodup.sublist (List.filter_sublist.map _)⟩
    obtain ⟨e, he, e1⟩ := List.mem_map.1 hmem
    have := (List.mem_filter.1 he).2
    unfold idB at this
    simp only [Bool.not_eq_true', decide_eq_false_iff_not] at this
    exact this e1
end Go.Tw
