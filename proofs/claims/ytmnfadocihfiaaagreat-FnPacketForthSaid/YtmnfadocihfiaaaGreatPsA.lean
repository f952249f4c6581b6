/- Facts on mirrors. -/
import Derived.Test.YtmnfadocihfiaaaGreatPs9
set_option linter.all false
set_option maxRecDepth 100000
set_option maxHeartbeats 4000000
namespace Go.Tw
open Go Go.RowKit
theorem upB_of {k : Nat} (hk : MM < k) {u : D_Upper} {n : Int} (h1 : (uO u).length ≤ 1100000) (h2 : (uB u).length ≤ 1100000) (h : impl_UpperOk k u n = some ((true, ()), ())) : upB u n = true := by
  have := (upOk k hk u n h1 h2).1
  rw [h] at this
  injection this with this
  injection this with this
  injection this with this
  exact this.symm
theorem upper_back {d : List Int} (hb : bytesP d) (p : Int) (s t : D_Addr) (h : (upRd d p s t).2 = 0) :
    upGood (upRd d p s t).1 s t = true ∧ upBy (upRd d p s t).1 s t = d ∧ (upRd d p s t).1.1 = kindG p s.1 := by
  have hk : MM < (1048577 : Nat) := by decide
  unfold upRd at h ⊢
  by_cases hl : 1500 < d.length
  · rw [bif_t (decide_eq_true hl)] at h; cases h
  rw [bif_f (decide_eq_false hl)] at h ⊢
  cases hs : bothB s t
  · rw [hs] at h; cases h
  cases hp : inB p 0 255
  · rw [hs, hp] at h; cases h
  rw [hs, hp] at h
  simp only [Bool.and_self, cond_true] at h ⊢
  have kg : kindG p s.1 = kindP p s.1 := by unfold kindG; rw [hp]; rfl
  rw [kg]
  have hv := pair_kind hs
  have dl : ∀ i, (d.drop i).length = d.length - i := fun i => List.length_drop
  have k11 : decide ((1 : Int) = 1) = true := rfl
  have k12 : decide ((2 : Int) = 1) = false := rfl
  have k13 : decide ((3 : Int) = 1) = false := rfl
  have k23 : decide ((3 : Int) = 2) = false := rfl
  have k22 : decide ((2 : Int) = 2) = true := rfl
  have k33 : decide ((3 : Int) = 3) = true := rfl
  have k01 : decide ((0 : Int) = 1) = false := rfl
  have k02 : decide ((0 : Int) = 2) = false := rfl
  have k03 : decide ((0 : Int) = 3) = false := rfl
  rcases kind_cases p s.1 with e | e | e | e
  · rw [e, k01, k02, k03] at h ⊢
    simp only [cond_false] at h ⊢
    have ok := upB_of hk (u := upO d) (n := s.1) (Nat.zero_le _) (by show d.length ≤ 1100000; omega) (okO (b := d) 1048577 hk (by omega) hv).1
    have g : upGood (upO d) s t = true := by unfold upGood; rw [hs, ok]; rfl
    exact ⟨g, by unfold upBy; rw [g]; rfl, by first | rfl | trivial⟩
  · rw [e, k11] at h ⊢
    simp only [cond_true] at h ⊢
    unfold rdT at h ⊢
    by_cases h1 : d.length < 20
    · rw [bif_t (decide_eq_true h1)] at h; cases h
    rw [bif_f (decide_eq_false h1)] at h ⊢
    by_cases h2 : hT d < 20
    · rw [bif_t (decide_eq_true h2)] at h; cases h
    rw [bif_f (decide_eq_false h2)] at h ⊢
    by_cases h3 : d.length < hT d
    · rw [bif_t (decide_eq_true h3)] at h; cases h
    rw [bif_f (decide_eq_false h3)] at h ⊢
    by_cases h4 : w2 d 16 = sTd d s t (hT d)
    case neg => rw [bif_f (decide_eq_false h4)] at h; cases h
    rw [bif_t (decide_eq_true h4)]
    have g12 := hb _ (getD_mem d 0 12 (by omega))
    have g13 := hb _ (getD_mem d 0 13 (by omega))
    obtain ⟨q1, q2, _⟩ := hT_eq d hb (by omega)
    have lo : ((d.drop 20).take (hT d - 20)).length = hT d - 20 := by rw [List.length_take, List.length_drop]; omega
    have b12 := be_two hb 12
    have ok := upB_of hk (u := uTd d (hT d)) (n := s.1) (by show ((d.drop 20).take (hT d - 20)).length ≤ 1100000; omega) (by show (d.drop (hT d)).length ≤ 1100000; rw [dl]; omega)
      (okT (sp := w2 d 0) (dp := w2 d 2) (sq := w4 d 4) (ak := w4 d 8) (bt := w2 d 12 % 4096) (wn := w2 d 14) (ur := w2 d 18) (o := (d.drop 20).take (hT d - 20)) (b := d.drop (hT d)) 1048577 hk (be_two hb 0) (be_two hb 2) (be_four hb 4) (be_four hb 8) (by omega) (be_two hb 14) (be_two hb 18) (by omega) (by omega) (by rw [lo, dl]; omega) hv).1
    have g : upGood (uTd d (hT d)) s t = true := by unfold upGood; rw [hs, ok]; rfl
    refine ⟨g, ?_, rfl⟩
    unfold upBy
    rw [g]
    have ek : usumK (uTd d (hT d)) s t = w2 d 16 := h4.symm
    rw [ek]
    have w12 : w2 d 12 = 256 * d.getD 12 0 + d.getD 13 0 := by
      show beB ((d.drop 12).take 2) = _
      rw [tk2 12 (by omega)]; simp [beB]; omega
    have x12 : 4096 * (5 + ((((d.drop 20).take (hT d - 20)).length : Nat) : Int) / 4) + w2 d 12 % 4096 = w2 d 12 := by
      rw [lo]
      have hh : ((hT d : Nat) : Int) = 4 * (d.getD 12 0 / 16) := by unfold hT; omega
      omega
    show ecTc (w2 d 16) (w2 d 0) (w2 d 2) (w4 d 4) (w4 d 8) (w2 d 12 % 4096) (w2 d 14) (w2 d 18) ((d.drop 20).take (hT d - 20)) (d.drop (hT d)) = d
    unfold ecTc
    rw [x12, pc hb 0 2 (by omega), pc hb 2 2 (by omega), pc hb 4 4 (by omega), pc hb 8 4 (by omega), pc hb 12 2 (by omega), pc hb 14 2 (by omega), pc hb 16 2 (by omega), pc hb 18 2 (by omega), cut d 20 (hT d - 20) (hT d) (by omega), cut d 18 2 20 rfl, cut d 16 2 18 rfl, cut d 14 2 16 rfl, cut d 12 2 14 rfl, cut d 8 4 12 rfl, cut d 4 4 8 rfl, cut d 2 2 4 rfl, cut d 0 2 2 rfl]
    rfl
  · rw [e, k12, k22] at h ⊢
    simp only [cond_true, cond_false] at h ⊢
    unfold rdU at h ⊢
    by_cases h1 : d.length < 8
    · rw [bif_t (decide_eq_true h1)] at h; cases h
    rw [bif_f (decide_eq_false h1)] at h ⊢
    by_cases h2 : w2 d 4 = ((d.length : Nat) : Int)
    case neg => rw [bif_f (decide_eq_false h2)] at h; cases h
    rw [bif_t (decide_eq_true h2)] at h ⊢
    by_cases h4 : w2 d 6 = sUd d s t (nsd d s)
    case neg => rw [bif_f (decide_eq_false h4)] at h; cases h
    rw [bif_t (decide_eq_true h4)]
    have hns : nsd d s = true → s.1 = 4 := fun q => by
      unfold nsd at q
      simp only [Bool.and_eq_true, decide_eq_true_eq] at q
      exact q.1
    have ok := upB_of hk (u := uUd d (nsd d s)) (n := s.1) (Nat.zero_le _) (by show (d.drop 8).length ≤ 1100000; rw [dl]; omega)
      (okU (sp := w2 d 0) (dp := w2 d 2) (ns := nsd d s) (b := d.drop 8) 1048577 hk (be_two hb 0) (be_two hb 2) (by rw [dl]; omega) hv hns).1
    have g : upGood (uUd d (nsd d s)) s t = true := by unfold upGood; rw [hs, ok]; rfl
    refine ⟨g, ?_, rfl⟩
    unfold upBy
    rw [g]
    have ek : usumK (uUd d (nsd d s)) s t = w2 d 6 := h4.symm
    rw [ek]
    show ecUc (w2 d 6) (w2 d 0) (w2 d 2) (d.drop 8) = d
    unfold ecUc
    have x4 : 8 + (((d.drop 8).length : Nat) : Int) = w2 d 4 := by rw [dl, h2]; omega
    rw [x4, pc hb 0 2 (by omega), pc hb 2 2 (by omega), pc hb 4 2 (by omega), pc hb 6 2 (by omega), cut d 6 2 8 rfl, cut d 4 2 6 rfl, cut d 2 2 4 rfl, cut d 0 2 2 rfl]
    rfl
  · rw [e, k13, k23, k33] at h ⊢
    simp only [cond_true, cond_false] at h ⊢
    unfold rdIc at h ⊢
    by_cases h1 : d.length < 8
    · rw [bif_t (decide_eq_true h1)] at h; cases h
    rw [bif_f (decide_eq_false h1)] at h ⊢
    by_cases h4 : w2 d 2 = sId d s t
    case neg => rw [bif_f (decide_eq_false h4)] at h; cases h
    rw [bif_t (decide_eq_true h4)]
    have g0 := hb _ (getD_mem d 0 0 (by omega))
    have g1 := hb _ (getD_mem d 0 1 (by omega))
    have ok := upB_of hk (u := uId d) (n := s.1) (Nat.zero_le _) (by show (d.drop 8).length ≤ 1100000; rw [dl]; omega)
      (okI (ty := d.getD 0 0) (cd := d.getD 1 0) (rs := w4 d 4) (b := d.drop 8) 1048577 hk g0 g1 (be_four hb 4) (by rw [dl]; omega) hv).1
    have g : upGood (uId d) s t = true := by unfold upGood; rw [hs, ok]; rfl
    refine ⟨g, ?_, rfl⟩
    unfold upBy
    rw [g]
    have ek : usumK (uId d) s t = w2 d 2 := h4.symm
    rw [ek]
    show ecIc (w2 d 2) (d.getD 0 0) (d.getD 1 0) (w4 d 4) (d.drop 8) = d
    unfold ecIc
    have x0 : d.getD 0 0 % 256 = d.getD 0 0 := by omega
    have x1 : d.getD 1 0 % 256 = d.getD 1 0 := by omega
    rw [x0, x1, ← tk2 (d := d) 0 (by omega), pc hb 2 2 (by omega), pc hb 4 4 (by omega), cut d 4 4 8 rfl, cut d 2 2 4 rfl, cut d 0 2 2 rfl]
    rfl
end Go.Tw
