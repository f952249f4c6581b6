/- Facts on mirrors. -/
import Derived.Test.YtmnfadocihfiaaaGreatPp2
set_option linter.all false
set_option maxRecDepth 100000
set_option maxHeartbeats 1100000
namespace Go.Tw
open Go Go.RowKit
theorem addrBy_le (a : D_Addr) : (addrBy a).length ≤ 16 := by
  unfold addrBy
  cases addrB a <;> cases decide (a.1 = 4) <;> simp [putB_len]
def hdB (f : D_Four) : List Int :=
  (((((((([(69 + (((fO f).length : Nat) : Int) / 4) % 256, (4 * f.1 + f.2.1) % 256] : List Int) ++ putB (20 + (((fO f).length : Nat) : Int) + (((fB f).length : Nat) : Int)) 2) ++ putB f.2.2.1 2) ++ putB (8192 * f.2.2.2.1 + f.2.2.2.2.1) 2) ++ [f.2.2.2.2.2.1 % 256, f.2.2.2.2.2.2.1 % 256]) ++ putB 0 2) ++ addrBy f.2.2.2.2.2.2.2.1) ++ addrBy f.2.2.2.2.2.2.2.2.1) ++ fO f
theorem four_rng {f : D_Four} (h : fourB f = true) : (0 ≤ f.1 ∧ f.1 ≤ 63) ∧ (0 ≤ f.2.1 ∧ f.2.1 ≤ 3) ∧ (0 ≤ f.2.2.1 ∧ f.2.2.1 ≤ 65535) ∧ (0 ≤ f.2.2.2.1 ∧ f.2.2.2.1 ≤ 7) ∧ (0 ≤ f.2.2.2.2.1 ∧ f.2.2.2.2.1 ≤ 8191) ∧ (0 ≤ f.2.2.2.2.2.1 ∧ f.2.2.2.2.2.1 ≤ 255) ∧ (0 ≤ f.2.2.2.2.2.2.1 ∧ f.2.2.2.2.2.2.1 ≤ 255) ∧ ((fO f).length ≤ 40 ∧ (fB f).length ≤ 1500) := by
  unfold fourB at h
  simp only [Bool.and_eq_true, inB_iff, decide_eq_true_eq] at h
  obtain ⟨h1, h2, h3, h4, h5, h6, h7, _, _, h8, _, h9⟩ := h
  exact ⟨h1, h2, h3, h4, h5, h6, h7, by show f.2.2.2.2.2.2.2.2.2.1.length ≤ 40; omega, by show f.2.2.2.2.2.2.2.2.2.2.1.length ≤ 1500; omega⟩
theorem hdI (k : Nat) (hk : MM < k) (f : D_Four) (hf : fourB f = true) : impl_Four_head k f 0 = some ((hdB f, ()), ()) := by
  obtain ⟨h1, h2, h3, h4, h5, h6, h7, h8, h9⟩ := four_rng hf
  have h8' : f.2.2.2.2.2.2.2.2.2.1.length ≤ 40 := h8
  have h9' : f.2.2.2.2.2.2.2.2.2.2.1.length ≤ 1500 := h9
  unfold impl_Four_head impl_fourHead
  simp only [Option.bind_some, sizeI f (by omega) (by omega), put16I k hk, addrByI k hk]
  have a1 := addrBy_le f.2.2.2.2.2.2.2.1
  have a2 := addrBy_le f.2.2.2.2.2.2.2.2.1
  rw [catB k hk _ (by simp) (by simp only [List.flatten_cons, List.flatten_nil, List.length_append, List.length_cons, List.length_nil, putB_len]; omega)]
  simp only [Option.bind_some]
  have w1 : IntKind.wrap .i64 (20 + ((f.2.2.2.2.2.2.2.2.2.1.length : Nat) : Int)) = 20 + ((f.2.2.2.2.2.2.2.2.2.1.length : Nat) : Int) := w64 (by omega)
  have w2 : Int.tdiv (20 + ((f.2.2.2.2.2.2.2.2.2.1.length : Nat) : Int)) 4 = 5 + ((f.2.2.2.2.2.2.2.2.2.1.length : Nat) : Int) / 4 := by rw [Int.tdiv_eq_ediv_of_nonneg (by omega)]; omega
  have w3 : IntKind.wrap .i64 (5 + ((f.2.2.2.2.2.2.2.2.2.1.length : Nat) : Int) / 4) = 5 + ((f.2.2.2.2.2.2.2.2.2.1.length : Nat) : Int) / 4 := w64 (by omega)
  have w4 : IntKind.wrap .i64 (64 + (5 + ((f.2.2.2.2.2.2.2.2.2.1.length : Nat) : Int) / 4)) = 69 + ((f.2.2.2.2.2.2.2.2.2.1.length : Nat) : Int) / 4 := by rw [w64 (by omega)]; omega
  have w5 : IntKind.wrap .i64 (IntKind.wrap .i64 (4 * f.1) + f.2.1) = 4 * f.1 + f.2.1 := by rw [w64 (n := 4 * f.1) (by omega), w64 (by omega)]
  have w6 : IntKind.wrap .i64 (IntKind.wrap .i64 (8192 * f.2.2.2.1) + f.2.2.2.2.1) = 8192 * f.2.2.2.1 + f.2.2.2.2.1 := by rw [w64 (n := 8192 * f.2.2.2.1) (by omega), w64 (by omega)]
  rw [w1, w2, w3, w4, w5, w6, wu8, wu8, wu8, wu8]
  unfold hdB
  simp only [List.flatten_cons, List.flatten_nil, List.append_nil, List.append_assoc]
theorem hdS (f : D_Four) (hf : fourB f = true) : spec_l05Head f 0 = some ((hdB f, ()), ()) := by
  obtain ⟨h1, h2, h3, h4, h5, h6, h7, h8, h9⟩ := four_rng hf
  have h8' : f.2.2.2.2.2.2.2.2.2.1.length ≤ 40 := h8
  have h9' : f.2.2.2.2.2.2.2.2.2.2.1.length ≤ 1500 := h9
  have a1 := addrBy_le f.2.2.2.2.2.2.2.1
  have a2 := addrBy_le f.2.2.2.2.2.2.2.2.1
  unfold spec_l05Head
  simp only [Option.bind_some, put16S, addrByS, putB_len, List.length_append, List.length_cons, List.length_nil]
  have w0 : IntKind.wrap .i64 (IntKind.wrap .i64 (20 + ((f.2.2.2.2.2.2.2.2.2.1.length : Nat) : Int)) + ((f.2.2.2.2.2.2.2.2.2.2.1.length : Nat) : Int)) = 20 + ((f.2.2.2.2.2.2.2.2.2.1.length : Nat) : Int) + ((f.2.2.2.2.2.2.2.2.2.2.1.length : Nat) : Int) := by rw [w64 (n := 20 + _) (by omega), w64 (by omega)]
  have w2 : Int.tdiv (((f.2.2.2.2.2.2.2.2.2.1.length : Nat) : Int)) 4 = ((f.2.2.2.2.2.2.2.2.2.1.length : Nat) : Int) / 4 := Int.tdiv_eq_ediv_of_nonneg (by omega)
  have w3 : IntKind.wrap .i64 (((f.2.2.2.2.2.2.2.2.2.1.length : Nat) : Int) / 4) = ((f.2.2.2.2.2.2.2.2.2.1.length : Nat) : Int) / 4 := w64 (by omega)
  have w4 : IntKind.wrap .i64 (69 + (((f.2.2.2.2.2.2.2.2.2.1.length : Nat) : Int) / 4)) = 69 + ((f.2.2.2.2.2.2.2.2.2.1.length : Nat) : Int) / 4 := by rw [w64 (by omega)]
  have w5 : IntKind.wrap .i64 (IntKind.wrap .i64 (4 * f.1) + f.2.1) = 4 * f.1 + f.2.1 := by rw [w64 (n := 4 * f.1) (by omega), w64 (by omega)]
  have w6 : IntKind.wrap .i64 (IntKind.wrap .i64 (8192 * f.2.2.2.1) + f.2.2.2.2.1) = 8192 * f.2.2.2.1 + f.2.2.2.2.1 := by rw [w64 (n := 8192 * f.2.2.2.1) (by omega), w64 (by omega)]
  rw [w0, w2, w3, w4, w5, w6, wu8, wu8, wu8, wu8]
  repeat (refine (bif_t (decide_eq_true (by omega))).trans ?_)
  rfl
theorem hdB_bytes {f : D_Four} (hf : fourB f = true) (ho : bytesP (fO f)) : bytesP (hdB f) := by
  intro b hb
  unfold hdB at hb
  simp only [List.mem_append, List.mem_cons, List.not_mem_nil, or_false] at hb
  rcases hb with ((((((((h | h) | h) | h) | h) | (h | h)) | h) | h) | h) | h
  · subst h; omega
  · subst h; omega
  · exact putB_bytes _ _ b h
  · exact putB_bytes _ _ b h
  · exact putB_bytes _ _ b h
  · subst h; omega
  · subst h; omega
  · exact putB_bytes _ _ b h
  · exact addrBy_bytes _ b h
  · exact addrBy_bytes _ b h
  · exact ho b h
def hsum (f : D_Four) : Int := bif fourB f then csum (hdB f) else -1
theorem hsumI (k : Nat) (hk : MM < k) (f : D_Four) (h1 : (fO f).length ≤ 1100000) (h2 : (fB f).length ≤ 1100000) (ho : bytesP (fO f)) : impl_HeadSum k f = some ((hsum f, ()), ()) := by
  unfold impl_HeadSum hsum
  rw [fourI f h1 h2, Option.bind_some, bn]
  cases h : fourB f
  · rfl
  · simp only [cond_true, hdI k hk f h, Option.bind_some, csumI k hk _ (hdB_bytes h ho)]
theorem hsumS (k : Nat) (hk : MM < k) (f : D_Four) (h1 : (fO f).length ≤ 1100000) (h2 : (fB f).length ≤ 1100000) (ho : bytesP (fO f)) : spec_HeadSum k f = some ((hsum f, ()), ()) := by
  unfold spec_HeadSum hsum
  rw [fourS f h1 h2, Option.bind_some, bn]
  cases h : fourB f
  · rfl
  · simp only [cond_true, hdS f h, Option.bind_some, csumS k hk _ (hdB_bytes h ho)]
def pieceB (f : D_Four) : Bool := fourB f && (!decide (f.2.2.2.2.1 = 0) || decide (Int.tmod f.2.2.2.1 2 = 1))
theorem pieceI (f : D_Four) (h1 : (fO f).length ≤ 1100000) (h2 : (fB f).length ≤ 1100000) : impl_FourPiece f = some ((pieceB f, ()), ()) := by
  unfold impl_FourPiece pieceB
  rw [fourI f h1 h2, Option.bind_some]
  cases fourB f <;> cases decide (f.2.2.2.2.1 = 0) <;> rfl
theorem pieceS (f : D_Four) (h1 : (fO f).length ≤ 1100000) (h2 : (fB f).length ≤ 1100000) : spec_FourPiece f = some ((pieceB f, ()), ()) := by
  unfold spec_FourPiece pieceB
  rw [fourS f h1 h2, Option.bind_some]
  cases fourB f <;> cases decide (f.2.2.2.2.1 = 0) <;> rfl
end Go.Tw
