/- Facts on mirrors. -/
import Derived.Test.YtmnfadocihfiaaaGreatPq2
set_option linter.all false
set_option maxRecDepth 100000
set_option maxHeartbeats 8000000
namespace Go.Tw
open Go Go.RowKit
theorem onesI (k : Nat) (hk : MM < k) (l : List Int) (hb : bytesP l) (hl : l.length ≤ 2000) : impl_onesSum k l = some ((osum l 0, ()), ()) := by
  have hM : MM = 1048576 := rfl
  unfold impl_onesSum
  have run := onesI_run l hb (by omega) l.length 0 k 0 (by omega) (by omega) (by omega) (by omega)
  refine (congrArg (fun o => Option.bind o _) run).trans ?_
  simp only [Option.bind_some, List.drop_zero]
theorem onesS (k : Nat) (hk : MM < k) (l : List Int) (hb : bytesP l) (hl : l.length ≤ 2000) : spec_OnesSum k l = some ((osum l 0, ()), ()) := by
  have hM : MM = 1048576 := rfl
  unfold spec_OnesSum
  rw [bif_f (decide_eq_false (by omega))]
  have run := onesS_run l hb (by omega) l.length 0 k 0 (by omega) (by omega) (by omega) (by omega)
  refine (congrArg (fun o => Option.bind o _) run).trans ?_
  simp only [Option.bind_some, List.drop_zero]
section
variable {sp dp sq ak bt wn ur ty cd rs : Int} {ns : Bool} {o b : List Int}
def ecT (sp dp sq ak bt wn ur : Int) (o b : List Int) : List Int :=
  putB sp 2 ++ (putB dp 2 ++ (putB sq 4 ++ (putB ak 4 ++ (putB (4096 * (5 + ((o.length : Nat) : Int) / 4) + bt) 2 ++ (putB wn 2 ++ (putB 0 2 ++ (putB ur 2 ++ (o ++ b))))))))
def ecU (sp dp : Int) (b : List Int) : List Int := putB sp 2 ++ (putB dp 2 ++ (putB (8 + ((b.length : Nat) : Int)) 2 ++ (putB 0 2 ++ b)))
def ecI (ty cd rs : Int) (b : List Int) : List Int := [ty % 256, cd % 256] ++ (putB 0 2 ++ (putB rs 4 ++ b))
theorem encT_I (k : Nat) (hk : MM < k) (h5 : 0 ≤ bt ∧ bt ≤ 4095) (h8 : o.length ≤ 40) (h10 : b.length ≤ 1500) : impl_Upper_encoded k (upT sp dp sq ak bt wn ur o b) 0 = some ((ecT sp dp sq ak bt wn ur o b, ()), ()) := by
  unfold impl_Upper_encoded
  have w2 : Int.tdiv (((o.length : Nat) : Int)) 4 = ((o.length : Nat) : Int) / 4 := Int.tdiv_eq_ediv_of_nonneg (by omega)
  have w3 : IntKind.wrap .i64 (((o.length : Nat) : Int) / 4) = ((o.length : Nat) : Int) / 4 := w64 (by omega)
  have w4 : IntKind.wrap .i64 (5 + ((o.length : Nat) : Int) / 4) = 5 + ((o.length : Nat) : Int) / 4 := w64 (by omega)
  have w5 : IntKind.wrap .i64 (4096 * (5 + ((o.length : Nat) : Int) / 4)) = 4096 * (5 + ((o.length : Nat) : Int) / 4) := w64 (by omega)
  have w6 : IntKind.wrap .i64 (4096 * (5 + ((o.length : Nat) : Int) / 4) + bt) = 4096 * (5 + ((o.length : Nat) : Int) / 4) + bt := w64 (by omega)
  have c1 := catB k hk [putB sp 2, putB dp 2] (by simp) (by simp [putB_len])
  have c2 := catB k hk [putB sp 2 ++ putB dp 2, putB sq 4, putB ak 4, putB (4096 * (5 + ((o.length : Nat) : Int) / 4) + bt) 2, putB wn 2, putB 0 2, putB ur 2, o, b] (by simp) (by simp only [List.flatten_cons, List.flatten_nil, List.length_append, List.length_nil, putB_len]; omega)
  simp only [List.flatten_cons, List.flatten_nil, List.append_nil] at c1 c2
  simp only [put16I k hk, put32I k hk, w2, w3, w4, w5, w6, c1, c2, decide_true, cond_true, Option.bind_some]
  unfold ecT
  simp only [List.append_assoc]
theorem encT_S (h5 : 0 ≤ bt ∧ bt ≤ 4095) (h8 : o.length ≤ 40) (h10 : b.length ≤ 1500) : spec_l07Bytes (upT sp dp sq ak bt wn ur o b) 0 = some ((ecT sp dp sq ak bt wn ur o b, ()), ()) := by
  unfold spec_l07Bytes spec_l07Bytes_j0
  have w2 : Int.tdiv (((o.length : Nat) : Int)) 4 = ((o.length : Nat) : Int) / 4 := Int.tdiv_eq_ediv_of_nonneg (by omega)
  have w3 : IntKind.wrap .i64 (((o.length : Nat) : Int) / 4) = ((o.length : Nat) : Int) / 4 := w64 (by omega)
  have w4 : IntKind.wrap .i64 (5 + ((o.length : Nat) : Int) / 4) = 5 + ((o.length : Nat) : Int) / 4 := w64 (by omega)
  have w5 : IntKind.wrap .i64 (4096 * (5 + ((o.length : Nat) : Int) / 4)) = 4096 * (5 + ((o.length : Nat) : Int) / 4) := w64 (by omega)
  have w6 : IntKind.wrap .i64 (4096 * (5 + ((o.length : Nat) : Int) / 4) + bt) = 4096 * (5 + ((o.length : Nat) : Int) / 4) + bt := w64 (by omega)
  simp only [put16S, put32S, w2, w3, w4, w5, w6, decide_true, Bool.not_true, cond_true, cond_false, Option.bind_some, putB_len, List.length_append]
  repeat (refine (bif_t (decide_eq_true (by omega))).trans ?_)
  unfold ecT
  simp only [List.append_assoc]
theorem encU_I (k : Nat) (hk : MM < k) (h10 : b.length ≤ 1500) : impl_Upper_encoded k (upU sp dp ns b) 0 = some ((ecU sp dp b, ()), ()) := by
  unfold impl_Upper_encoded
  have k1 : decide ((2 : Int) = 1) = false := rfl
  have z := (uszU (sp := sp) (dp := dp) (ns := ns) (b := b) (by omega)).1
  have c1 := catB k hk [putB sp 2, putB dp 2] (by simp) (by simp [putB_len])
  have c2 := catB k hk [putB sp 2 ++ putB dp 2, putB (8 + ((b.length : Nat) : Int)) 2, putB 0 2, b] (by simp) (by simp only [List.flatten_cons, List.flatten_nil, List.length_append, List.length_nil, putB_len]; omega)
  simp only [List.flatten_cons, List.flatten_nil, List.append_nil] at c1 c2
  simp only [put16I k hk, put32I k hk, k1, z, c1, c2, decide_true, cond_true, cond_false, Option.bind_some]
  unfold ecU
  simp only [List.append_assoc]
theorem encU_S (h10 : b.length ≤ 1500) : spec_l07Bytes (upU sp dp ns b) 0 = some ((ecU sp dp b, ()), ()) := by
  unfold spec_l07Bytes spec_l07Bytes_j0
  have k1 : decide ((2 : Int) = 1) = false := rfl
  have z := (uszU (sp := sp) (dp := dp) (ns := ns) (b := b) (by omega)).2
  simp only [put16S, put32S, k1, z, decide_true, Bool.not_true, Bool.not_false, cond_true, cond_false, Option.bind_some, putB_len, List.length_append]
  repeat (refine (bif_t (decide_eq_true (by omega))).trans ?_)
  unfold ecU
  simp only [List.append_assoc]
theorem encI_I (k : Nat) (hk : MM < k) (h10 : b.length ≤ 1500) : impl_Upper_encoded k (upI ty cd rs b) 0 = some ((ecI ty cd rs b, ()), ()) := by
  unfold impl_Upper_encoded
  have k1 : decide ((3 : Int) = 1) = false := rfl
  have k2 : decide ((3 : Int) = 2) = false := rfl
  have c1 := catB k hk [putB 0 2, putB 0 2] (by simp) (by simp [putB_len])
  have c2 := catB k hk [[ty % 256, cd % 256], putB 0 2, putB rs 4, b] (by simp) (by simp only [List.flatten_cons, List.flatten_nil, List.length_append, List.length_cons, List.length_nil, putB_len]; omega)
  simp only [List.flatten_cons, List.flatten_nil, List.append_nil] at c1 c2
  simp only [put16I k hk, put32I k hk, wu8, k1, k2, c1, c2, decide_true, cond_true, cond_false, Option.bind_some]
  rfl
theorem encI_S (h10 : b.length ≤ 1500) : spec_l07Bytes (upI ty cd rs b) 0 = some ((ecI ty cd rs b, ()), ()) := by
  unfold spec_l07Bytes spec_l07Bytes_j0
  have k1 : decide ((3 : Int) = 1) = false := rfl
  have k2 : decide ((3 : Int) = 2) = false := rfl
  simp only [put16S, put32S, wu8, k1, k2, decide_true, Bool.not_true, Bool.not_false, cond_true, cond_false, Option.bind_some, putB_len, List.length_append, List.length_cons, List.length_nil]
  repeat (refine (bif_t (decide_eq_true (by omega))).trans ?_)
  unfold ecI
  simp only [List.append_assoc]
end
theorem app_bytes {a b : List Int} (ha : bytesP a) (hb : bytesP b) : bytesP (a ++ b) := fun x hx => by
  rcases List.mem_append.1 hx with h | h
  · exact ha x h
  · exact hb x h
theorem encT_bytes {sp dp sq ak bt wn ur : Int} {o b : List Int} (ho : bytesP o) (hb : bytesP b) : bytesP (ecT sp dp sq ak bt wn ur o b) :=
  app_bytes (putB_bytes _ _) (app_bytes (putB_bytes _ _) (app_bytes (putB_bytes _ _) (app_bytes (putB_bytes _ _) (app_bytes (putB_bytes _ _) (app_bytes (putB_bytes _ _) (app_bytes (putB_bytes _ _) (app_bytes (putB_bytes _ _) (app_bytes ho hb))))))))
theorem encU_bytes {sp dp : Int} {b : List Int} (hb : bytesP b) : bytesP (ecU sp dp b) :=
  app_bytes (putB_bytes _ _) (app_bytes (putB_bytes _ _) (app_bytes (putB_bytes _ _) (app_bytes (putB_bytes _ _) hb)))
theorem two_bytes (x y : Int) : bytesP [x % 256, y % 256] := fun b hb => by
  simp only [List.mem_cons, List.not_mem_nil, or_false] at hb
  rcases hb with rfl | rfl <;> omega
theorem encI_bytes {ty cd rs : Int} {b : List Int} (hb : bytesP b) : bytesP (ecI ty cd rs b) :=
  app_bytes (two_bytes _ _) (app_bytes (putB_bytes _ _) (app_bytes (putB_bytes _ _) hb))
def psd (s d : D_Addr) (p n : Int) : List Int := bif decide (s.1 = 6) then addrBy s ++ (addrBy d ++ (putB n 4 ++ [0, 0, 0, p % 256])) else addrBy s ++ (addrBy d ++ ([0, p % 256] ++ putB n 2))
theorem psd_bytes (s d : D_Addr) (p n : Int) : bytesP (psd s d p n) := by
  have h2 : bytesP [0, p % 256] := fun b hb => by
    simp only [List.mem_cons, List.not_mem_nil, or_false] at hb
    rcases hb with rfl | rfl <;> omega
  have h4 : bytesP [0, 0, 0, p % 256] := fun b hb => by
    simp only [List.mem_cons, List.not_mem_nil, or_false] at hb
    rcases hb with rfl | rfl | rfl | rfl <;> omega
  unfold psd
  cases decide (s.1 = 6)
  · exact app_bytes (addrBy_bytes _) (app_bytes (addrBy_bytes _) (app_bytes h2 (putB_bytes _ _)))
  · exact app_bytes (addrBy_bytes _) (app_bytes (addrBy_bytes _) (app_bytes (putB_bytes _ _) h4))
theorem psd_len (s d : D_Addr) (p n : Int) : (psd s d p n).length ≤ 40 := by
  have a1 := addrBy_le s
  have a2 := addrBy_le d
  unfold psd
  cases decide (s.1 = 6) <;> simp only [cond_true, cond_false, List.length_append, List.length_cons, List.length_nil, putB_len] <;> omega
theorem psdI (k : Nat) (hk : MM < k) (s d : D_Addr) (p n : Int) : impl_pseudoSum k s d p n = some ((osum (psd s d p n) 0, ()), ()) := by
  have a1 := addrBy_le s
  have a2 := addrBy_le d
  have hb := psd_bytes s d p n
  have hl := psd_len s d p n
  unfold impl_pseudoSum
  have c1 := catB k hk [[0, p % 256], putB n 2] (by simp) (by simp [putB_len])
  have c2 := catB k hk [putB n 4, [0, 0, 0, p % 256]] (by simp) (by simp [putB_len])
  have c3 := catB k hk [addrBy s, addrBy d, putB n 4 ++ [0, 0, 0, p % 256]] (by simp) (by simp only [List.flatten_cons, List.flatten_nil, List.length_append, List.length_cons, List.length_nil, putB_len]; omega)
  have c4 := catB k hk [addrBy s, addrBy d, [0, p % 256] ++ putB n 2] (by simp) (by simp only [List.flatten_cons, List.flatten_nil, List.length_append, List.length_cons, List.length_nil, putB_len]; omega)
  simp only [List.flatten_cons, List.flatten_nil, List.append_nil] at c1 c2 c3 c4
  unfold psd at hb hl ⊢
  cases h : decide (s.1 = 6)
  · rw [h] at hb hl
    simp only [cond_false] at hb hl
    simp only [put16I k hk, put32I k hk, wu8, c1, addrByI k hk, c4, onesI k hk _ hb (by omega), Option.bind_some, cond_false]
  · rw [h] at hb hl
    simp only [cond_true] at hb hl
    simp only [put16I k hk, put32I k hk, wu8, c1, c2, addrByI k hk, c3, onesI k hk _ hb (by omega), Option.bind_some, cond_true]
def bothB (s d : D_Addr) : Bool := addrB s && (addrB d && decide (s.1 = d.1))
theorem pairI (s d : D_Addr) : impl_areBoth s d = some ((bothB s d, ()), ()) := by
  unfold impl_areBoth bothB
  simp only [addrI, Option.bind_some]
  cases addrB s <;> cases addrB d <;> rfl
theorem pairS (s d : D_Addr) : spec_l07Pair s d = some ((bothB s d, ()), ()) := by
  unfold spec_l07Pair bothB
  simp only [addrS, Option.bind_some]
  cases addrB s <;> cases addrB d <;> rfl
theorem pair_kind {s d : D_Addr} (h : bothB s d = true) : s.1 = 4 ∨ s.1 = 6 := by
  unfold bothB addrB at h
  by_cases h4 : s.1 = 4
  · exact .inl h4
  · right
    rw [decide_eq_false h4] at h
    simp only [cond_false, Bool.and_eq_true, decide_eq_true_eq] at h
    exact h.1.1
theorem psdS (k : Nat) (hk : MM < k) (s d : D_Addr) (p n : Int) (hp : bothB s d = true) (h1 : 0 ≤ p ∧ p ≤ 255) (h2 : 0 ≤ n ∧ n ≤ 1500) : spec_PseudoSum k s d p n = some ((osum (psd s d p n) 0, ()), ()) := by
  have a1 := addrBy_le s
  have a2 := addrBy_le d
  have hb := psd_bytes s d p n
  have hl := psd_len s d p n
  unfold spec_PseudoSum
  have i1 := inB_t h1
  have i2 := inB_t h2
  unfold psd at hb hl ⊢
  rcases pair_kind hp with h | h
  · have e4 : decide (s.1 = 4) = true := decide_eq_true h
    have e6 : decide (s.1 = 6) = false := decide_eq_false (by omega)
    rw [e6] at hb hl ⊢
    simp only [cond_false] at hb hl ⊢
    simp only [pairS, hp, inS, i1, i2, addrByS, put16S, wu8, e4, putB_len, List.length_append, List.length_cons, List.length_nil, Option.bind_some, Bool.not_true, Bool.not_false, cond_true, cond_false]
    repeat (refine (bif_t (decide_eq_true (by omega))).trans ?_)
    rw [show ((addrBy s ++ addrBy d) ++ [0, p % 256]) ++ putB n 2 = addrBy s ++ (addrBy d ++ ([0, p % 256] ++ putB n 2)) by simp only [List.append_assoc], onesS k hk _ hb (by omega)]
    rfl
  · have e4 : decide (s.1 = 4) = false := decide_eq_false (by omega)
    have e6 : decide (s.1 = 6) = true := decide_eq_true h
    rw [e6] at hb hl ⊢
    simp only [cond_true] at hb hl ⊢
    simp only [pairS, hp, inS, i1, i2, addrByS, put32S, wu8, e4, putB_len, List.length_append, List.length_cons, List.length_nil, Option.bind_some, Bool.not_true, Bool.not_false, cond_true, cond_false]
    repeat (refine (bif_t (decide_eq_true (by omega))).trans ?_)
    rw [show ((addrBy s ++ addrBy d) ++ putB n 4) ++ [0, 0, 0, p % 256] = addrBy s ++ (addrBy d ++ (putB n 4 ++ [0, 0, 0, p % 256])) by simp only [List.append_assoc], onesS k hk _ hb (by omega)]
    rfl
end Go.Tw
