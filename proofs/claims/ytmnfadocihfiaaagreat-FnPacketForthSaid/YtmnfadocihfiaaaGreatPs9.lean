/- Facts on mirrors. -/
import Derived.Test.YtmnfadocihfiaaaGreatPs8
set_option linter.all false
set_option maxRecDepth 100000
set_option maxHeartbeats 4000000
namespace Go.Tw
open Go Go.RowKit
theorem exts_back : ∀ (n : Nat) (kind : Int) (l : List Int) (out : List D_Ext) {o : List D_Ext} {kd : Int} {r : List Int}, bytesP l → 0 ≤ kind → kind ≤ 255 → extsP n kind l out = some (o, kd, r) →
    ∃ X, o = out ++ X ∧ kind = nxK X kd ∧ l = exBy X kd ++ r ∧ xAll out.length X = true ∧ exK kd = false ∧ 0 ≤ kd ∧ kd ≤ 255
  | 0, kind, l, out, o, kd, r, _, _, _, h => by simp [extsP] at h
  | n + 1, kind, l, out, o, kd, r, hb, k0, k1, h => by
    unfold extsP at h
    cases h1 : exK kind
    · rw [h1] at h
      simp only [cond_false, Option.some.injEq, Prod.mk.injEq] at h
      obtain ⟨rfl, rfl, rfl⟩ := h
      exact ⟨[], by simp, rfl, rfl, rfl, h1, k0, k1⟩
    · rw [h1] at h
      simp only [cond_true] at h
      cases h2 : stopB kind l out
      · rw [h2] at h
        simp only [cond_false] at h
        unfold stopB at h2
        simp only [Bool.or_eq_false_iff, decide_eq_false_iff_not] at h2
        obtain ⟨q1, q2, q3, q4, q5⟩ := h2
        have g0 := hb _ (getD_mem l 0 0 (by omega))
        have g1 := hb _ (getD_mem l 0 1 (by omega))
        obtain ⟨X, e1, e2, e3, e4, e5, e6⟩ := exts_back n _ _ _ (drop_bytes hb _) g0.1 g0.2 h
        have xt : (xT l : Int) = 8 * (l.getD 1 0 + 1) := by unfold xT; omega
        have lb : ((l.drop 2).take (xT l - 2)).length = xT l - 2 := by rw [List.length_take, List.length_drop]; omega
        refine ⟨(kind, (l.drop 2).take (xT l - 2), ()) :: X, by rw [e1]; unfold nxt; simp, rfl, ?_, ?_, e5, e6⟩
        · have eL : exBy ((kind, (l.drop 2).take (xT l - 2), ()) :: X) kd = [nxK X kd % 256, ((2 + ((((l.drop 2).take (xT l - 2)).length : Nat) : Int)) / 8 - 1) % 256] ++ ((l.drop 2).take (xT l - 2) ++ exBy X kd) := rfl
          rw [eL, ← e2, lb]
          have x1 : (2 + ((xT l - 2 : Nat) : Int)) / 8 - 1 = l.getD 1 0 := by omega
          have x2 : l.getD 0 0 % 256 = l.getD 0 0 := by omega
          have x3 : l.getD 1 0 % 256 = l.getD 1 0 := by omega
          rw [x1, x2, x3, ← tk2 (d := l) 0 (by omega)]
          simp only [List.append_assoc]
          rw [← e3, cut l 2 (xT l - 2) (xT l) (by omega), cut l 0 2 2 rfl]
          rfl
        · have eX : xAll out.length ((kind, (l.drop 2).take (xT l - 2), ()) :: X) = (xOk out.length (kind, (l.drop 2).take (xT l - 2), ()) && xAll (out.length + 1) X) := rfl
          rw [eX]
          have e4' : xAll (out.length + 1) X = true := by
            have : (nxt kind l out).length = out.length + 1 := by unfold nxt; simp
            rw [← this]; exact e4
          rw [e4', Bool.and_true]
          unfold xOk
          dsimp only
          rw [h1, lb, Int.tmod_eq_emod_of_nonneg (by omega), decide_eq_true (show ((xT l - 2 : Nat) : Int) % 8 = 6 by omega), decide_eq_true (show ((xT l - 2 : Nat) : Int) ≤ 62 by omega)]
          simp only [Bool.true_and, Bool.and_true]
          revert q2
          cases decide (kind = 0) <;> cases decide (0 < out.length) <;> simp
      · rw [h2] at h; simp at h
theorem six_back {d : List Int} (hb : bytesP d) (h : (sixRd d).2.2 = 0) : sixB (sixRd d).1 = true ∧ sixBy (sixRd d).1 ++ (sixRd d).2.1 = d := by
  have hA := (sixA d hb).e
  unfold sixRd at h hA ⊢
  by_cases h1 : 1600 < d.length
  · rw [bif_t (decide_eq_true h1)] at h; cases h
  rw [bif_f (decide_eq_false h1)] at h hA ⊢
  by_cases h2 : d.length < 40
  · rw [bif_t (decide_eq_true h2)] at h; cases h
  rw [bif_f (decide_eq_false h2)] at h hA ⊢
  by_cases h3 : b0 d / 16 = 6
  case neg => rw [bif_f (decide_eq_false h3)] at h; cases h
  rw [bif_t (decide_eq_true h3)] at h hA ⊢
  cases h4 : (decide (1500 < sEnd d) || decide (d.length < sEnd d))
  case true => rw [h4] at h; cases h
  rw [h4] at h hA
  simp only [cond_false] at h hA ⊢
  simp only [Bool.or_eq_false_iff, decide_eq_false_iff_not] at h4
  have g0 := hb _ (getD_mem d 0 0 (by omega))
  have g6 := hb _ (getD_mem d 0 6 (by omega))
  have g7 := hb _ (getD_mem d 0 7 (by omega))
  cases he : extsP 4 (d.getD 6 0) ((d.drop 40).take (sEnd d - 40)) []
  case none => rw [he] at h; cases h
  rename_i v
  obtain ⟨o, kd, r⟩ := v
  rw [he] at hA
  obtain ⟨X, e1, e2, e3, e4, e5, e6⟩ := exts_back 4 _ _ _ (sub_bytes hb _ _) g6.1 g6.2 he
  rw [List.nil_append] at e1
  subst e1
  have hX : (o.length ≤ 3) := hA.1
  have w0 := be_four hb 0
  have t4 := be_two hb 4
  have en : ((sEnd d : Nat) : Int) = 40 + beB ((d.drop 4).take 2) := by unfold sEnd; omega
  have a8 := addr16_back (l := (d.drop 8).take 16) (sub_bytes hb 8 16) (by rw [List.length_take, List.length_drop]; omega)
  have a24 := addr16_back (l := (d.drop 24).take 16) (sub_bytes hb 24 16) (by rw [List.length_take, List.length_drop]; omega)
  have hl : ((d.drop 40).take (sEnd d - 40)).length = sEnd d - 40 := by rw [List.length_take, List.length_drop]; omega
  have xl := exBy_len o kd
  have ll : sEnd d - 40 = (exBy o kd).length + r.length := by rw [← hl, e3, List.length_append]
  have hx : areX o = true := by
    unfold areX
    rw [show xAll 0 o = true from e4, decide_eq_true (show ((o.length : Nat) : Int) ≤ 3 by omega)]; rfl
  have top : sW d / 16777216 = d.getD 0 0 := by
    have c : (d.drop 0).take 4 = [d.getD 0 0] ++ (d.drop 1).take 3 := by
      rw [← tk1 (d := d) 0 (by omega)]
      have := List.take_add (l := d.drop 0) (i := 1) (j := 3)
      rw [List.drop_drop] at this
      exact this
    have l3 : ((d.drop 1).take 3).length = 3 := by rw [List.length_take, List.length_drop]; omega
    have s3 := be_sub hb 1 3
    have s3' : beB ((d.drop 1).take 3) < 16777216 := s3.2
    show beB ((d.drop 0).take 4) / 16777216 = _
    rw [c, beB_app, l3]
    have : beB [d.getD 0 0] = d.getD 0 0 := by simp [beB]
    rw [this]
    show (d.getD 0 0 * 16777216 + beB ((d.drop 1).take 3)) / 16777216 = d.getD 0 0
    omega
  have h3' : d.getD 0 0 / 16 = 6 := h3
  have cls : sW d / 1048576 % 256 = sW d / 1048576 - 1536 := by omega
  have ok : sixB (sOf d o kd r) = true := by
    unfold sixB sOf ofB
    simp only [Bool.and_eq_true, inB_iff, decide_eq_true_eq, Bool.not_eq_true', a8.1, a8.2.1, a24.1, a24.2.1, hx, e5, true_and, and_true]
    show (0 ≤ sW d / 1048576 % 256 ∧ sW d / 1048576 % 256 ≤ 255) ∧ (0 ≤ sW d % 1048576 ∧ sW d % 1048576 ≤ 1048575) ∧ (0 ≤ d.getD 7 0 ∧ d.getD 7 0 ≤ 255) ∧ (0 ≤ kd ∧ kd ≤ 255) ∧ 40 + xSz o + ((r.length : Nat) : Int) ≤ 1500
    omega
  refine ⟨ok, ?_⟩
  unfold sixBy
  rw [ok]
  simp only [cond_true]
  have x0 : 1610612736 + sW d / 1048576 % 256 * 1048576 + sW d % 1048576 = sW d := by omega
  have x1 : xSz o + ((r.length : Nat) : Int) = beB ((d.drop 4).take 2) := by omega
  have x6 : nxK o kd % 256 = d.getD 6 0 := by rw [← e2]; omega
  have x7 : d.getD 7 0 % 256 = d.getD 7 0 := by omega
  show ((hd6 (sOf d o kd r) ++ exBy o kd) ++ r) ++ d.drop (sEnd d) = d
  rw [List.append_assoc (hd6 _), ← e3]
  unfold hd6 sOf
  simp only [x0, x1, x6, x7, a8.2.2, a24.2.2]
  rw [pc hb 0 4 (by omega), pc hb 4 2 (by omega), ← tk2 (d := d) 6 (by omega)]
  simp only [List.append_assoc]
  rw [cut d 40 (sEnd d - 40) (sEnd d) (by omega), cut d 24 16 40 rfl, cut d 8 16 24 rfl, cut d 6 2 8 rfl, cut d 4 2 6 rfl, cut d 0 4 4 rfl]
  rfl
end Go.Tw
