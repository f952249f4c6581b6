/- Facts on mirrors. -/
import Derived.Test.YtmnfadocihfiaaaGreatPs1
set_option linter.all false
set_option maxRecDepth 100000
set_option maxHeartbeats 8000000
namespace Go.Tw
open Go Go.RowKit
section
variable {sp dp sq ak bt wn ur ty cd rs : Int} {ns : Bool} {o b : List Int} {s d : D_Addr}
def ecTc (c sp dp sq ak bt wn ur : Int) (o b : List Int) : List Int :=
  putB sp 2 ++ (putB dp 2 ++ (putB sq 4 ++ (putB ak 4 ++ (putB (4096 * (5 + ((o.length : Nat) : Int) / 4) + bt) 2 ++ (putB wn 2 ++ (putB c 2 ++ (putB ur 2 ++ (o ++ b))))))))
def ecUc (c sp dp : Int) (b : List Int) : List Int := putB sp 2 ++ (putB dp 2 ++ (putB (8 + ((b.length : Nat) : Int)) 2 ++ (putB c 2 ++ b)))
def ecIc (c ty cd rs : Int) (b : List Int) : List Int := [ty % 256, cd % 256] ++ (putB c 2 ++ (putB rs 4 ++ b))
theorem encTc_I (k : Nat) (hk : MM < k) (c : Int) (h5 : 0 ≤ bt ∧ bt ≤ 4095) (h8 : o.length ≤ 40) (h10 : b.length ≤ 1500) : impl_Upper_encoded k (upT sp dp sq ak bt wn ur o b) c = some ((ecTc c sp dp sq ak bt wn ur o b, ()), ()) := by
  unfold impl_Upper_encoded
  have w2 : Int.tdiv (((o.length : Nat) : Int)) 4 = ((o.length : Nat) : Int) / 4 := Int.tdiv_eq_ediv_of_nonneg (by omega)
  have w3 : IntKind.wrap .i64 (((o.length : Nat) : Int) / 4) = ((o.length : Nat) : Int) / 4 := w64 (by omega)
  have w4 : IntKind.wrap .i64 (5 + ((o.length : Nat) : Int) / 4) = 5 + ((o.length : Nat) : Int) / 4 := w64 (by omega)
  have w5 : IntKind.wrap .i64 (4096 * (5 + ((o.length : Nat) : Int) / 4)) = 4096 * (5 + ((o.length : Nat) : Int) / 4) := w64 (by omega)
  have w6 : IntKind.wrap .i64 (4096 * (5 + ((o.length : Nat) : Int) / 4) + bt) = 4096 * (5 + ((o.length : Nat) : Int) / 4) + bt := w64 (by omega)
  have c1 := catB k hk [putB sp 2, putB dp 2] (by simp) (by simp [putB_len])
  have c2 := catB k hk [putB sp 2 ++ putB dp 2, putB sq 4, putB ak 4, putB (4096 * (5 + ((o.length : Nat) : Int) / 4) + bt) 2, putB wn 2, putB c 2, putB ur 2, o, b] (by simp) (by simp only [List.flatten_cons, List.flatten_nil, List.length_append, List.length_nil, putB_len]; omega)
  simp only [List.flatten_cons, List.flatten_nil, List.append_nil] at c1 c2
  simp only [put16I k hk, put32I k hk, w2, w3, w4, w5, w6, c1, c2, decide_true, cond_true, Option.bind_some]
  unfold ecTc
  simp only [List.append_assoc]
theorem encTc_S (c : Int) (h5 : 0 ≤ bt ∧ bt ≤ 4095) (h8 : o.length ≤ 40) (h10 : b.length ≤ 1500) : spec_l07Bytes (upT sp dp sq ak bt wn ur o b) c = some ((ecTc c sp dp sq ak bt wn ur o b, ()), ()) := by
  unfold spec_l07Bytes spec_l07Bytes_j0
  have w2 : Int.tdiv (((o.length : Nat) : Int)) 4 = ((o.length : Nat) : Int) / 4 := Int.tdiv_eq_ediv_of_nonneg (by omega)
  have w3 : IntKind.wrap .i64 (((o.length : Nat) : Int) / 4) = ((o.length : Nat) : Int) / 4 := w64 (by omega)
  have w4 : IntKind.wrap .i64 (5 + ((o.length : Nat) : Int) / 4) = 5 + ((o.length : Nat) : Int) / 4 := w64 (by omega)
  have w5 : IntKind.wrap .i64 (4096 * (5 + ((o.length : Nat) : Int) / 4)) = 4096 * (5 + ((o.length : Nat) : Int) / 4) := w64 (by omega)
  have w6 : IntKind.wrap .i64 (4096 * (5 + ((o.length : Nat) : Int) / 4) + bt) = 4096 * (5 + ((o.length : Nat) : Int) / 4) + bt := w64 (by omega)
  simp only [put16S, put32S, w2, w3, w4, w5, w6, decide_true, Bool.not_true, cond_true, cond_false, Option.bind_some, putB_len, List.length_append]
  repeat (refine (bif_t (decide_eq_true (by omega))).trans ?_)
  unfold ecTc
  simp only [List.append_assoc]
theorem encUc_I (k : Nat) (hk : MM < k) (c : Int) (h10 : b.length ≤ 1500) : impl_Upper_encoded k (upU sp dp ns b) c = some ((ecUc c sp dp b, ()), ()) := by
  unfold impl_Upper_encoded
  have k1 : decide ((2 : Int) = 1) = false := rfl
  have z := (uszU (sp := sp) (dp := dp) (ns := ns) (b := b) (by omega)).1
  have c1 := catB k hk [putB sp 2, putB dp 2] (by simp) (by simp [putB_len])
  have c2 := catB k hk [putB sp 2 ++ putB dp 2, putB (8 + ((b.length : Nat) : Int)) 2, putB c 2, b] (by simp) (by simp only [List.flatten_cons, List.flatten_nil, List.length_append, List.length_nil, putB_len]; omega)
  simp only [List.flatten_cons, List.flatten_nil, List.append_nil] at c1 c2
  simp only [put16I k hk, put32I k hk, k1, z, c1, c2, decide_true, cond_true, cond_false, Option.bind_some]
  unfold ecUc
  simp only [List.append_assoc]
theorem encUc_S (c : Int) (h10 : b.length ≤ 1500) : spec_l07Bytes (upU sp dp ns b) c = some ((ecUc c sp dp b, ()), ()) := by
  unfold spec_l07Bytes spec_l07Bytes_j0
  have k1 : decide ((2 : Int) = 1) = false := rfl
  have z := (uszU (sp := sp) (dp := dp) (ns := ns) (b := b) (by omega)).2
  simp only [put16S, put32S, k1, z, decide_true, Bool.not_true, Bool.not_false, cond_true, cond_false, Option.bind_some, putB_len, List.length_append]
  repeat (refine (bif_t (decide_eq_true (by omega))).trans ?_)
  unfold ecUc
  simp only [List.append_assoc]
theorem encIc_I (k : Nat) (hk : MM < k) (c : Int) (h10 : b.length ≤ 1500) : impl_Upper_encoded k (upI ty cd rs b) c = some ((ecIc c ty cd rs b, ()), ()) := by
  unfold impl_Upper_encoded
  have k1 : decide ((3 : Int) = 1) = false := rfl
  have k2 : decide ((3 : Int) = 2) = false := rfl
  have c1 := catB k hk [putB 0 2, putB 0 2] (by simp) (by simp [putB_len])
  have c2 := catB k hk [[ty % 256, cd % 256], putB c 2, putB rs 4, b] (by simp) (by simp only [List.flatten_cons, List.flatten_nil, List.length_append, List.length_cons, List.length_nil, putB_len]; omega)
  simp only [List.flatten_cons, List.flatten_nil, List.append_nil] at c1 c2
  simp only [put16I k hk, put32I k hk, wu8, k1, k2, c1, c2, decide_true, cond_true, cond_false, Option.bind_some]
  rfl
theorem encIc_S (c : Int) (h10 : b.length ≤ 1500) : spec_l07Bytes (upI ty cd rs b) c = some ((ecIc c ty cd rs b, ()), ()) := by
  unfold spec_l07Bytes spec_l07Bytes_j0
  have k1 : decide ((3 : Int) = 1) = false := rfl
  have k2 : decide ((3 : Int) = 2) = false := rfl
  simp only [put16S, put32S, wu8, k1, k2, decide_true, Bool.not_true, Bool.not_false, cond_true, cond_false, Option.bind_some, putB_len, List.length_append, List.length_cons, List.length_nil]
  repeat (refine (bif_t (decide_eq_true (by omega))).trans ?_)
  unfold ecIc
  simp only [List.append_assoc]
theorem encOc_I (k : Nat) (hk : MM < k) (c : Int) (h10 : b.length ≤ 1500) : impl_Upper_encoded k (upO b) c = some ((b, ()), ()) := by
  unfold impl_Upper_encoded
  have k1 : decide ((0 : Int) = 1) = false := rfl
  have k2 : decide ((0 : Int) = 2) = false := rfl
  have k3 : decide ((0 : Int) = 3) = false := rfl
  have c1 := catB k hk [putB 0 2, putB 0 2] (by simp) (by simp [putB_len])
  simp only [List.flatten_cons, List.flatten_nil, List.append_nil] at c1
  simp only [put16I k hk, k1, k2, k3, c1, cloneI b (by omega), cond_false, Option.bind_some]
theorem encOc_S (c : Int) (h10 : b.length ≤ 1500) : spec_l07Bytes (upO b) c = some ((b, ()), ()) := by
  unfold spec_l07Bytes spec_l07Bytes_j0
  have k1 : decide ((0 : Int) = 1) = false := rfl
  have k2 : decide ((0 : Int) = 2) = false := rfl
  have k3 : decide ((0 : Int) = 3) = false := rfl
  simp only [k1, k2, k3, decide_true, Bool.not_true, Bool.not_false, cond_true, cond_false, Option.bind_some, List.length_nil, List.nil_append]
  repeat (refine (bif_t (decide_eq_true (by omega))).trans ?_)
  rfl
theorem sumOS (k : Nat) (hk : MM < k) (hs : bothB s d = true) (h10 : b.length ≤ 1500) : spec_UpperSum k (upO b) s d = some ((0, ()), ()) := by
  obtain ⟨q1, q2⟩ := okO (b := b) k hk h10 (pair_kind hs)
  unfold spec_UpperSum
  simp only [pairS, hs, q2, decide_true, Option.bind_some, Bool.not_true, Bool.not_false, cond_true, cond_false]
end
def usumK (u : D_Upper) (s d : D_Addr) : Int := match u with
  | (kd, sp, dp, sq, ak, bt, wn, ur, ty, cd, rs, ns, o, b, _) =>
    bif decide (kd = 1) then usm (psd s d 6 (20 + ((o.length : Nat) : Int) + ((b.length : Nat) : Int))) (ecT sp dp sq ak bt wn ur o b) else
    bif decide (kd = 2) then (bif ns then 0 else usU (usm (psd s d 17 (8 + ((b.length : Nat) : Int))) (ecU sp dp b))) else
    bif decide (kd = 3) then usI s d (8 + ((b.length : Nat) : Int)) (ecI ty cd rs b) else 0
def upEnc (u : D_Upper) (c : Int) : List Int := match u with
  | (kd, sp, dp, sq, ak, bt, wn, ur, ty, cd, rs, ns, o, b, _) =>
    bif decide (kd = 1) then ecTc c sp dp sq ak bt wn ur o b else bif decide (kd = 2) then ecUc c sp dp b else bif decide (kd = 3) then ecIc c ty cd rs b else b
def upGood (u : D_Upper) (s d : D_Addr) : Bool := bothB s d && upB u s.1
def usum (u : D_Upper) (s d : D_Addr) : Int := bif upGood u s d then usumK u s d else -1
def upBy (u : D_Upper) (s d : D_Addr) : List Int := bif upGood u s d then upEnc u (usumK u s d) else []
theorem rg0 : (0 : Int) ≤ 0 ∧ (0 : Int) ≤ 65535 := ⟨by decide, by decide⟩
theorem rg1 : (0 : Int) ≤ 65535 ∧ (65535 : Int) ≤ 65535 := ⟨by decide, by decide⟩
theorem usU_rng {v : Int} (h : 0 ≤ v ∧ v ≤ 65535) : 0 ≤ usU v ∧ usU v ≤ 65535 := by
  unfold usU
  cases decide (v = 0)
  · exact h
  · exact rg1
section
variable (k : Nat) (hk : MM < k) (u : D_Upper) (s d : D_Addr) (h1 : (uO u).length ≤ 1100000) (h2 : (uB u).length ≤ 1100000) (ho : bytesP (uO u)) (hb : bytesP (uB u))
include hk h1 h2 ho hb
theorem sum_enc (hg : upGood u s d = true) : impl_UpperSum k u s d = some ((usumK u s d, ()), ()) ∧ spec_UpperSum k u s d = some ((usumK u s d, ()), ()) ∧ (0 ≤ usumK u s d ∧ usumK u s d ≤ 65535) ∧
    (∀ c, impl_Upper_encoded k u c = some ((upEnc u c, ()), ())) ∧ (∀ c, spec_l07Bytes u c = some ((upEnc u c, ()), ())) ∧ (∀ c, bytesP (upEnc u c)) ∧ (∀ c, (upEnc u c).length ≤ 1500) := by
  unfold upGood at hg
  rw [Bool.and_eq_true] at hg
  obtain ⟨hs, hu⟩ := hg
  obtain ⟨hn, h⟩ := upB_shape hu
  rcases h with ⟨sp, dp, sq, ak, bt, wn, ur, o, b, rfl, a1, a2, a3, a4, a5, a6, a7, a8, a9, a10⟩ | ⟨sp, dp, ns, b, rfl, a1, a2, a3, a4⟩ | ⟨ty, cd, rs, b, rfl, a1, a2, a3, a4⟩ | ⟨b, rfl, a1⟩
  · obtain ⟨q1, q2⟩ := sumT k hk hs a1 a2 a3 a4 a5 a6 a7 a8 a9 a10 ho hb
    refine ⟨q1, q2, usm_rng (psd_bytes _ _ _ _) (encT_bytes ho hb), fun c => encTc_I k hk c a5 a8 (by omega), fun c => encTc_S c a5 a8 (by omega), fun c => ?_, fun c => ?_⟩
    · exact app_bytes (putB_bytes _ _) (app_bytes (putB_bytes _ _) (app_bytes (putB_bytes _ _) (app_bytes (putB_bytes _ _) (app_bytes (putB_bytes _ _) (app_bytes (putB_bytes _ _) (app_bytes (putB_bytes _ _) (app_bytes (putB_bytes _ _) (app_bytes ho hb))))))))
    · show (ecTc c sp dp sq ak bt wn ur o b).length ≤ 1500
      unfold ecTc; simp only [List.length_append, putB_len]; omega
  · obtain ⟨q1, q2⟩ := sumU k hk hs a1 a2 a4 hb a3
    refine ⟨q1, q2, ?_, fun c => encUc_I k hk c (by omega), fun c => encUc_S c (by omega), fun c => ?_, fun c => ?_⟩
    · show 0 ≤ (bif ns then 0 else usU _) ∧ (bif ns then 0 else usU _) ≤ 65535
      cases ns
      · exact usU_rng (usm_rng (psd_bytes _ _ _ _) (encU_bytes hb))
      · exact rg0
    · exact app_bytes (putB_bytes _ _) (app_bytes (putB_bytes _ _) (app_bytes (putB_bytes _ _) (app_bytes (putB_bytes _ _) hb)))
    · show (ecUc c sp dp b).length ≤ 1500
      unfold ecUc; simp only [List.length_append, putB_len]; omega
  · obtain ⟨q1, q2⟩ := sumIc k hk hs a1 a2 a3 a4 hb
    refine ⟨q1, q2, ?_, fun c => encIc_I k hk c (by omega), fun c => encIc_S c (by omega), fun c => ?_, fun c => ?_⟩
    · show 0 ≤ usI s d _ _ ∧ usI s d _ _ ≤ 65535
      unfold usI
      cases decide (s.1 = 6)
      · have := sm_rng (a := 0) (by omega) (or0 (encI_bytes (ty := ty) (cd := cd) (rs := rs) (show bytesP b from hb)))
        simp only [cond_false]; omega
      · exact usm_rng (psd_bytes _ _ _ _) (encI_bytes hb)
    · exact app_bytes (two_bytes _ _) (app_bytes (putB_bytes _ _) (app_bytes (putB_bytes _ _) hb))
    · show (ecIc c ty cd rs b).length ≤ 1500
      unfold ecIc; simp only [List.length_append, List.length_cons, List.length_nil, putB_len]; omega
  · exact ⟨sumO k hk hs a1, sumOS k hk hs a1, rg0, fun c => encOc_I k hk c a1, fun c => encOc_S c a1, fun c => hb, fun c => a1⟩
theorem usumIS : impl_UpperSum k u s d = some ((usum u s d, ()), ()) ∧ spec_UpperSum k u s d = some ((usum u s d, ()), ()) := by
  cases hg : upGood u s d
  · have e : usum u s d = -1 := by unfold usum; rw [hg]; rfl
    rw [e]
    unfold upGood at hg
    obtain ⟨o1, o2⟩ := upOk k hk u s.1 h1 h2
    constructor
    · unfold impl_UpperSum
      simp only [pairI, Option.bind_some, bnn]
      cases hs : bothB s d
      · rfl
      · rw [hs, Bool.true_and] at hg
        simp only [cond_true, o1, hg, Option.bind_some, Bool.not_false]
    · unfold spec_UpperSum
      simp only [pairS, Option.bind_some, bnn]
      cases hs : bothB s d
      · rfl
      · rw [hs, Bool.true_and] at hg
        simp only [cond_true, o2, hg, Option.bind_some, Bool.not_false]
  · have e : usum u s d = usumK u s d := by unfold usum; rw [hg]; rfl
    obtain ⟨q1, q2, _⟩ := sum_enc k hk u s d h1 h2 ho hb hg
    rw [e]; exact ⟨q1, q2⟩
theorem usum_neg : decide (usum u s d < 0) = !upGood u s d := by
  cases hg : upGood u s d
  · unfold usum; rw [hg]; rfl
  · obtain ⟨_, _, q3, _⟩ := sum_enc k hk u s d h1 h2 ho hb hg
    unfold usum; rw [hg]
    exact decide_eq_false (by simp only [cond_true]; omega)
theorem upByIS : impl_UpperBytes k u s d = some ((upBy u s d, ()), ()) ∧ spec_UpperBytes k u s d = some ((upBy u s d, ()), ()) := by
  obtain ⟨a, b⟩ := usumIS k hk u s d h1 h2 ho hb
  have c := usum_neg k hk u s d h1 h2 ho hb
  constructor
  · unfold impl_UpperBytes upBy
    simp only [a, c, Option.bind_some, bn]
    cases hg : upGood u s d
    · rfl
    · obtain ⟨_, _, _, q4, _⟩ := sum_enc k hk u s d h1 h2 ho hb hg
      simp only [cond_true, q4, Option.bind_some]
      unfold usum; rw [hg]; rfl
  · unfold spec_UpperBytes upBy
    simp only [b, c, Option.bind_some, bn]
    cases hg : upGood u s d
    · rfl
    · obtain ⟨_, _, _, _, q5, _⟩ := sum_enc k hk u s d h1 h2 ho hb hg
      simp only [cond_true, q5, Option.bind_some]
      unfold usum; rw [hg]; rfl
theorem upBy_ok : bytesP (upBy u s d) ∧ (upBy u s d).length ≤ 1500 := by
  unfold upBy
  cases hg : upGood u s d
  · exact ⟨fun x hx => (List.not_mem_nil hx).elim, Nat.zero_le _⟩
  · obtain ⟨_, _, _, _, _, q6, q7⟩ := sum_enc k hk u s d h1 h2 ho hb hg
    exact ⟨q6 _, q7 _⟩
end
end Go.Tw
