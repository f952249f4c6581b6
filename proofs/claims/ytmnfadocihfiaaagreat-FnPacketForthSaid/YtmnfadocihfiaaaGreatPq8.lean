/- Facts on mirrors. -/
import Derived.Test.YtmnfadocihfiaaaGreatPq7
set_option linter.all false
set_option maxRecDepth 100000
set_option maxHeartbeats 4000000
namespace Go.Tw
open Go Go.RowKit
theorem drop_bytes {d : List Int} (h : bytesP d) (i : Nat) : bytesP (d.drop i) := fun x hx => h x (List.mem_of_mem_drop hx)
theorem nil_bytes : bytesP [] := fun x hx => by cases hx
theorem hsum_neg {f : D_Four} (h : 0 ≤ hsum f) : fourB f = true := by
  unfold hsum at h
  cases e : fourB f
  · rw [e] at h; exact absurd (show (0 : Int) ≤ -1 from h) (by decide)
  · rfl
structure FourA (F : D_Four × List Int × Int) : Prop where
  o : (fO F.1).length ≤ 1600
  b : (fB F.1).length ≤ 1600
  bb : bytesP (fB F.1)
  p : F.2.1.length ≤ 1600
  c : 0 ≤ F.2.2 ∧ F.2.2 ≤ 6
  k : F.2.2 = 0 → fourB F.1 = true
theorem four_zz (c : Int) (h : 1 ≤ c ∧ c ≤ 6) : FourA (zzF, [], c) :=
  ⟨Nat.zero_le _, Nat.zero_le _, nil_bytes, Nat.zero_le _, ⟨by have := h.1; show 0 ≤ c; omega, h.2⟩, fun e => by have : c = 0 := e; omega⟩
theorem fourA (d : List Int) (hb : bytesP d) : FourA (fourRd d) := by
  unfold fourRd
  by_cases h1 : 1600 < d.length
  · rw [bif_t (decide_eq_true h1)]; exact four_zz 1 (by omega)
  rw [bif_f (decide_eq_false h1)]
  by_cases h2 : d.length < 20
  · rw [bif_t (decide_eq_true h2)]; exact four_zz 2 (by omega)
  rw [bif_f (decide_eq_false h2)]
  by_cases h3 : b0 d / 16 = 4
  case neg => rw [bif_f (decide_eq_false h3)]; exact four_zz 3 (by omega)
  rw [bif_t (decide_eq_true h3)]
  cases (decide (fhl d < 20) || decide (d.length < fhl d))
  case true => exact four_zz 4 (by omega)
  cases (decide (ftot d < fhl d) || (decide (1500 < ftot d) || decide (d.length < ftot d)))
  case true => exact four_zz 5 (by omega)
  simp only [cond_false]
  by_cases h6 : beB ((d.drop 10).take 2) = hsum (fOf d (fhl d) (ftot d))
  case neg => rw [bif_f (decide_eq_false h6)]; exact four_zz 6 (by omega)
  rw [bif_t (decide_eq_true h6)]
  have l1 : ((d.drop 20).take (fhl d - 20)).length ≤ 1600 := by rw [List.length_take, List.length_drop]; omega
  have l2 : ((d.drop (fhl d)).take (ftot d - fhl d)).length ≤ 1600 := by rw [List.length_take, List.length_drop]; omega
  have l3 : (d.drop (ftot d)).length ≤ 1600 := by rw [List.length_drop]; omega
  exact ⟨l1, l2, sub_bytes hb _ _, l3, ⟨Int.le_refl 0, show (0 : Int) ≤ 6 by decide⟩, fun _ => hsum_neg (by rw [← h6]; exact (be_two hb 10).1)⟩
def extsW (l : List D_Ext) : Prop := l.length ≤ 3 ∧ ∀ e ∈ l, e.2.1.length ≤ 1600
theorem exts_w : ∀ (n : Nat) (kind : Int) (l : List Int) (out : List D_Ext) {o : List D_Ext} {kd : Int} {r : List Int}, l.length ≤ 1600 → extsW out → extsP n kind l out = some (o, kd, r) → extsW o
  | 0, kind, l, out, o, kd, r, hl, hw, h => by simp [extsP] at h
  | n + 1, kind, l, out, o, kd, r, hl, hw, h => by
    unfold extsP at h
    cases h1 : exK kind
    · rw [h1] at h
      simp only [cond_false, Option.some.injEq, Prod.mk.injEq] at h
      rw [← h.1]; exact hw
    · rw [h1] at h
      simp only [cond_true] at h
      cases h2 : stopB kind l out
      · rw [h2] at h
        simp only [cond_false] at h
        refine exts_w n _ _ _ (by rw [List.length_drop]; omega) ?_ h
        unfold stopB at h2
        simp only [Bool.or_eq_false_iff, decide_eq_false_iff_not] at h2
        refine ⟨by have := h2.1; have := hw.1; unfold nxt; simp; omega, fun e he => ?_⟩
        unfold nxt at he
        rcases List.mem_append.1 he with he | he
        · exact hw.2 e he
        · rw [List.mem_singleton.1 he]
          show ((l.drop 2).take (xT l - 2)).length ≤ 1600
          rw [List.length_take, List.length_drop]; omega
      · rw [h2] at h; simp at h
abbrev sE (s : D_Six) : List D_Ext := s.2.2.2.2.2.2.1
abbrev sB (s : D_Six) : List Int := s.2.2.2.2.2.2.2.1
structure SixA (S : D_Six × List Int × Int) : Prop where
  e : extsW (sE S.1)
  b : (sB S.1).length ≤ 1600
  bb : bytesP (sB S.1)
  p : S.2.1.length ≤ 1600
  c : 0 ≤ S.2.2 ∧ S.2.2 ≤ 6
theorem nil_w : extsW [] := ⟨Nat.zero_le _, fun e he => by cases he⟩
theorem six_zz (c : Int) (h : 1 ≤ c ∧ c ≤ 6) : SixA (zzS, [], c) :=
  ⟨nil_w, Nat.zero_le _, nil_bytes, Nat.zero_le _, ⟨by have := h.1; show 0 ≤ c; omega, h.2⟩⟩
theorem sixA (d : List Int) (hb : bytesP d) : SixA (sixRd d) := by
  unfold sixRd
  by_cases h1 : 1600 < d.length
  · rw [bif_t (decide_eq_true h1)]; exact six_zz 1 (by omega)
  rw [bif_f (decide_eq_false h1)]
  by_cases h2 : d.length < 40
  · rw [bif_t (decide_eq_true h2)]; exact six_zz 2 (by omega)
  rw [bif_f (decide_eq_false h2)]
  by_cases h3 : b0 d / 16 = 6
  case neg => rw [bif_f (decide_eq_false h3)]; exact six_zz 3 (by omega)
  rw [bif_t (decide_eq_true h3)]
  cases (decide (1500 < sEnd d) || decide (d.length < sEnd d))
  case true => exact six_zz 4 (by omega)
  simp only [cond_false]
  have hl : ((d.drop 40).take (sEnd d - 40)).length ≤ 1600 := by rw [List.length_take, List.length_drop]; omega
  cases he : extsP 4 (d.getD 6 0) ((d.drop 40).take (sEnd d - 40)) []
  · exact six_zz 5 (by omega)
  · rename_i v
    obtain ⟨o, kd, r⟩ := v
    obtain ⟨j, hj⟩ := ext_len 4 _ _ _ he
    have l3 : (d.drop (sEnd d)).length ≤ 1600 := by rw [List.length_drop]; omega
    refine ⟨exts_w 4 _ _ _ hl nil_w he, ?_, ?_, l3, ⟨Int.le_refl 0, show (0 : Int) ≤ 6 by decide⟩⟩
    · show r.length ≤ 1600
      rw [hj, List.length_drop]; omega
    · show bytesP r
      rw [hj]; exact drop_bytes (sub_bytes hb _ _) j
structure UpA (U : D_Upper × Int) : Prop where
  o : U.1.2.2.2.2.2.2.2.2.2.2.2.2.1.length ≤ 1600
  b : U.1.2.2.2.2.2.2.2.2.2.2.2.2.2.1.length ≤ 1600
  c : 0 ≤ U.2 ∧ U.2 ≤ 6
theorem up_zz (c : Int) (h : 0 ≤ c ∧ c ≤ 6) : UpA (zzU, c) := ⟨Nat.zero_le _, Nat.zero_le _, h⟩
theorem upA (d : List Int) (p : Int) (s t : D_Addr) : UpA (upRd d p s t) := by
  unfold upRd
  by_cases hl : 1500 < d.length
  · rw [bif_t (decide_eq_true hl)]; exact up_zz 1 (by omega)
  rw [bif_f (decide_eq_false hl)]
  have ld : ∀ i, (d.drop i).length ≤ 1600 := fun i => by rw [List.length_drop]; omega
  have lt : ∀ i j, ((d.drop i).take j).length ≤ 1600 := fun i j => by rw [List.length_take, List.length_drop]; omega
  have z0 : (0 : Int) ≤ 0 ∧ (0 : Int) ≤ 6 := by omega
  cases (bothB s t && inB p 0 255)
  · exact up_zz 2 (by omega)
  simp only [cond_true]
  cases decide (kindP p s.1 = 1)
  · cases decide (kindP p s.1 = 2)
    · cases decide (kindP p s.1 = 3)
      · exact ⟨Nat.zero_le _, (by have := hl; show d.length ≤ 1600; omega), z0⟩
      · simp only [cond_true, cond_false]
        unfold rdIc
        cases decide (d.length < 8)
        · simp only [cond_false]
          cases decide (w2 d 2 = sId d s t)
          · exact up_zz 6 (by omega)
          · exact ⟨Nat.zero_le _, ld 8, z0⟩
        · exact up_zz 3 (by omega)
    · simp only [cond_true, cond_false]
      unfold rdU
      cases decide (d.length < 8)
      · simp only [cond_false]
        cases decide (w2 d 4 = ((d.length : Nat) : Int))
        · exact up_zz 5 (by omega)
        · simp only [cond_true]
          cases decide (w2 d 6 = sUd d s t (nsd d s))
          · exact up_zz 6 (by omega)
          · exact ⟨Nat.zero_le _, ld 8, z0⟩
      · exact up_zz 3 (by omega)
  · simp only [cond_true]
    unfold rdT
    cases decide (d.length < 20)
    · cases decide (hT d < 20)
      · cases decide (d.length < hT d)
        · simp only [cond_false]
          cases decide (w2 d 16 = sTd d s t (hT d))
          · exact up_zz 6 (by omega)
          · exact ⟨lt _ _, ld _, z0⟩
        · exact up_zz 4 (by omega)
      · exact up_zz 4 (by omega)
    · exact up_zz 3 (by omega)
structure EthA (E : D_Ether × Int) : Prop where
  bb : bytesP E.1.2.2.2.2.1
  c : 0 ≤ E.2 ∧ E.2 ≤ 6
theorem eth_zz (c : Int) (h : 0 ≤ c ∧ c ≤ 6) : EthA (zzE, c) := ⟨nil_bytes, h⟩
theorem ethA (d : List Int) (hb : bytesP d) : EthA (etherRd d) := by
  unfold etherRd
  have z0 : (0 : Int) ≤ 0 ∧ (0 : Int) ≤ 6 := by omega
  cases decide (1600 < d.length)
  · cases decide (d.length < 14)
    · cases decide (beB ((d.drop 12).take 2) = 33024)
      · cases decide (1536 ≤ beB ((d.drop 12).take 2))
        · exact eth_zz 4 (by omega)
        · exact ⟨drop_bytes hb 14, z0⟩
      · cases decide (d.length < 18)
        · cases (decide (1536 ≤ beB ((d.drop 16).take 2)) && !decide (beB ((d.drop 16).take 2) = 33024))
          · exact eth_zz 4 (by omega)
          · exact ⟨drop_bytes hb 18, z0⟩
        · exact eth_zz 3 (by omega)
    · exact eth_zz 2 (by omega)
  · exact eth_zz 1 (by omega)
end Go.Tw
