/- Facts on mirrors. -/
import Derived.Test.YtmnfadocihfiaaaGreatMr
import Derived.Test.YtmnfadocihfiaaaGreatPn0
import Derived.Test.YtmnfadocihfiaaaGreatPf0
set_option linter.all false
namespace Go.Tw
open Go Go.RowKit
abbrev bytesP (l : List Int) : Prop := ∀ b ∈ l, 0 ≤ b ∧ b ≤ 255
theorem wu8 (n : Int) : IntKind.wrap .u8 n = n % 256 := by
  simp [IntKind.wrap, IntKind.signed, IntKind.bits]
theorem putB_get (n : Int) : ∀ (m i : Nat), i < m → (putB n m)[i]? = some ((n / ((256 ^ (m - 1 - i) : Nat) : Int)) % 256)
  | 0, i, h => by omega
  | m + 1, 0, h => by simp [putB]
  | m + 1, i + 1, h => by
    have := putB_get n m i (by omega)
    simp only [putB, List.getElem?_cons_succ, this]
    congr 5; omega
theorem pow256 (e : Nat) : (2 : Int) ^ (8 * e) = ((256 ^ e : Nat) : Int) := by
  rw [Int.pow_mul]
  simp
theorem put_eq (k : Nat) (hk : MM < k) (n : Int) (m : Nat) (hm : m ≤ 8) : impl_put k n (m : Int) = some ((putB n m, ()), ()) := by
  have hM : MM = 1048576 := rfl
  obtain ⟨T, hT, run⟩ := inv_run (step := impl_put_s3) (n := m) (st := fun j (T : List Int) => ((), n, (m : Int), T, (m : Int), (j : Int), ())) (fin := fun T => ((), T, ())) (fun j T => T.length = m ∧ ∀ i, i < j → T[i]? = some ((n / ((256 ^ (m - 1 - i) : Nat) : Int)) % 256))
    (fun j T hj hI => by
      obtain ⟨hl, hI⟩ := hI
      refine ⟨T.set j ((n / ((256 ^ (m - 1 - j) : Nat) : Int)) % 256), ⟨by simpa using hl, fun i hi => ?_⟩, fun rec => ?_⟩
      · rw [List.getElem?_set]
        by_cases e : j = i
        · subst e; simp [hl, hj]
        · rw [if_neg e]; exact hI i (by omega)
      · have hwi : IntKind.wrap .i64 ((j : Int) + 1) = ((j + 1 : Nat) : Int) := w64 (by omega)
        have w1 : IntKind.wrap .i64 ((m : Int) - 1) = (m : Int) - 1 := w64 (by omega)
        have w2 : IntKind.wrap .i64 ((m : Int) - 1 - (j : Int)) = ((m - 1 - j : Nat) : Int) := by rw [w64 (by omega)]; omega
        have w3 : IntKind.wrap .i64 (8 * ((m - 1 - j : Nat) : Int)) = ((8 * (m - 1 - j) : Nat) : Int) := by rw [w64 (by omega)]; omega
        have w4 : min (8 * (m - 1 - j)) (IntKind.bits .i64) = 8 * (m - 1 - j) := by
          have : IntKind.bits .i64 = 64 := rfl
          rw [this]; omega
        unfold impl_put_s3
        refine (bif_t (by simp; omega)).trans ?_
        simp only [w1, w2, w3]
        refine (bif_t (by simp; omega)).trans ?_
        refine (bif_t (by simp; omega)).trans ?_
        refine (bif_t (by simp; omega)).trans ?_
        simp only [Int.toNat_natCast, w4, hwi, pow256, wu8]
        rw [Int.fdiv_eq_ediv_of_nonneg _ (Int.le_of_lt (pow_pos' _))])
    (fun T hI rec => by
      unfold impl_put_s3
      exact bif_f (by simp)) m 0 k (List.replicate m 0) (by omega) (by omega) ⟨by simp, fun i hi => by omega⟩
  have hT' : T = putB n m := by
    apply List.ext_getElem?
    intro i
    by_cases hi : i < m
    · rw [hT.2 i hi, putB_get n m i hi]
    · rw [List.getElem?_eq_none (by omega), List.getElem?_eq_none (by rw [putB_len]; omega)]
  subst hT'
  unfold impl_put
  rw [bif_t (by simp; omega)]
  simp only [Int.toNat_natCast, List.length_replicate]
  exact (congrArg (fun o => Option.bind o _) run).trans rfl
theorem put16I (k : Nat) (hk : MM < k) (n : Int) : impl_Put16 k n = some ((putB n 2, ()), ()) := by
  unfold impl_Put16
  rw [show (2 : Int) = ((2 : Nat) : Int) from rfl, put_eq k hk n 2 (by omega)]; rfl
theorem put32I (k : Nat) (hk : MM < k) (n : Int) : impl_Put32 k n = some ((putB n 4, ()), ()) := by
  unfold impl_Put32
  rw [show (4 : Int) = ((4 : Nat) : Int) from rfl, put_eq k hk n 4 (by omega)]; rfl
theorem low_eq (n m : Int) (h1 : 0 < m) (h2 : m ≤ 4294967296) : spec_l01Low n m = some ((n % m, ()), ()) := by
  unfold spec_l01Low
  rw [bif_t (by simp; omega)]
  have he := Int.tmod_eq_emod (a := n) (b := m)
  have hr0 := Int.emod_nonneg n (show m ≠ 0 by omega)
  have hr1 := Int.emod_lt_of_pos n h1
  by_cases hc : 0 ≤ n ∨ m ∣ n
  · rw [if_pos hc] at he
    rw [bif_f (by simp; omega), he]; simp
  · rw [if_neg hc] at he
    have hnz : n % m ≠ 0 := fun h => hc (.inr (Int.dvd_of_emod_eq_zero h))
    rw [bif_t (by simp; omega), w64 (by omega)]
    congr 3; omega
theorem putB2 (n : Int) : putB n 2 = [n / 256 % 256, n % 256] := by
  show [n / 256 % 256, n / 1 % 256] = _
  rw [Int.ediv_one]
theorem putB4 (n : Int) : putB n 4 = [n / 16777216 % 256, n / 65536 % 256, n / 256 % 256, n % 256] := by
  show [n / 16777216 % 256, n / 65536 % 256, n / 256 % 256, n / 1 % 256] = _
  rw [Int.ediv_one]
theorem put16S (n : Int) : spec_Put16 n = some ((putB n 2, ()), ()) := by
  unfold spec_Put16
  rw [low_eq n 65536 (by omega) (by omega)]
  simp only [Option.bind_some]
  rw [Int.tdiv_eq_ediv_of_nonneg (by omega), Int.tmod_eq_emod_of_nonneg (by omega), w64 (by omega), wu8, wu8, putB2]
  have e1 : n % 65536 / 256 % 256 = n / 256 % 256 := by omega
  have e2 : n % 65536 % 256 % 256 = n % 256 := by omega
  rw [e1, e2]
theorem put32S (n : Int) : spec_Put32 n = some ((putB n 4, ()), ()) := by
  unfold spec_Put32
  rw [low_eq n 4294967296 (by omega) (by omega)]
  simp only [Option.bind_some]
  rw [Int.tdiv_eq_ediv_of_nonneg (by omega), Int.tmod_eq_emod_of_nonneg (by omega), w64 (by omega), put16S, put16S]
  simp only [Option.bind_some]
  rw [putB2, putB2, putB4]
  have e1 : n % 4294967296 / 65536 / 256 % 256 = n / 16777216 % 256 := by omega
  have e2 : n % 4294967296 / 65536 % 256 = n / 65536 % 256 := by omega
  have e3 : n % 4294967296 % 65536 / 256 % 256 = n / 256 % 256 := by omega
  have e4 : n % 4294967296 % 65536 % 256 = n % 256 := by omega
  rw [e1, e2, e3, e4]
  rfl
theorem or_byte {a b : Int} (ha : 0 ≤ a ∧ a < 18014398509481984) (hb : 0 ≤ b ∧ b ≤ 255) :
    IntKind.wrap .i64 (BitVec.ofInt (IntKind.bits .i64) (IntKind.wrap .i64 (a * 2 ^ min (Int.toNat 8) (IntKind.bits .i64))) ||| BitVec.ofInt (IntKind.bits .i64) (IntKind.wrap .i64 b)).toNat = a * 256 + b := by
  have e : (2 : Int) ^ min (Int.toNat 8) (IntKind.bits .i64) = 256 := rfl
  rw [e, w64 (n := a * 256) (by omega), w64 (n := b) (by omega)]
  obtain ⟨x, rfl⟩ := Int.eq_ofNat_of_zero_le ha.1
  obtain ⟨y, rfl⟩ := Int.eq_ofNat_of_zero_le hb.1
  have h1 : (BitVec.ofInt (IntKind.bits .i64) ((x : Int) * 256) ||| BitVec.ofInt (IntKind.bits .i64) (y : Int)).toNat = x * 256 + y := by
    rw [BitVec.toNat_or]
    have e1 : (BitVec.ofInt (IntKind.bits .i64) ((x : Int) * 256)).toNat = x * 256 := by
      rw [show ((x : Int) * 256) = ((x * 256 : Nat) : Int) by omega, BitVec.ofInt_natCast, BitVec.toNat_ofNat]
      exact Nat.mod_eq_of_lt (by show x * 256 < 2 ^ 64; omega)
    have e2 : (BitVec.ofInt (IntKind.bits .i64) (y : Int)).toNat = y := by
      rw [BitVec.ofInt_natCast, BitVec.toNat_ofNat]
      exact Nat.mod_eq_of_lt (by show y < 2 ^ 64; omega)
    rw [e1, e2]
    have := Nat.shiftLeft_add_eq_or_of_lt (i := 8) (b := y) (by omega) x
    rw [Nat.shiftLeft_eq] at this
    exact this.symm
  rw [h1, w64 (by omega)]
  omega
theorem beB_snoc (l : List Int) (b : Int) : beB (l ++ [b]) = beB l * 256 + b := by simp [beB]
theorem beOf_eq (k : Nat) (hk : MM < k) (l : List Int) (hb : bytesP l) (hl : l.length ≤ 7) : impl_beOf k l = some ((beB l, ()), ()) := by
  have hM : MM = 1048576 := rfl
  have pw : ∀ j, j ≤ 6 → ((256 ^ j : Nat) : Int) ≤ 281474976710656 := by decide
  obtain ⟨a, ha, run⟩ := inv_run (step := impl_beOf_s3) (n := l.length) (st := fun j (a : Int) => ((), a, l, ((l.length : Nat) : Int), (j : Int), ())) (fin := fun a => ((), a, ())) (fun j a => a = beB (l.take j))
    (fun j a hj hI => by
      refine ⟨beB (l.take (j + 1)), rfl, fun rec => ?_⟩
      have hwi : IntKind.wrap .i64 ((j : Int) + 1) = ((j + 1 : Nat) : Int) := w64 (by omega)
      have hbj := hb _ (getD_mem l (0 : Int) j hj)
      have hr := beB_rng (l.take j) (fun x hx => hb x (List.mem_of_mem_take hx))
      rw [List.length_take, ← hI] at hr
      have hp := pw (min j l.length) (by omega)
      unfold impl_beOf_s3
      refine (bif_t (by simp; omega)).trans ?_
      refine (bif_t (by simp; omega)).trans ?_
      refine (bif_t (by simp; omega)).trans ?_
      simp only [Int.toNat_natCast]
      rw [hwi, or_byte (by omega) hbj]
      rw [List.take_add_one, List.getElem?_eq_getElem hj, getD_at l 0 j hj, hI]
      show rec _ = rec _
      rw [Option.toList_some, beB_snoc])
    (fun a hI rec => by
      unfold impl_beOf_s3
      exact bif_f (by simp)) l.length 0 k 0 (by omega) (by omega) (by simp [beB])
  rw [List.take_length] at ha
  subst ha
  unfold impl_beOf
  exact (congrArg (fun o => Option.bind o _) run).trans rfl
def sm (a w : Int) : Int := if 65535 < a + w then a + w - 65535 else a + w
def osum : List Int → Int → Int
  | [], a => a
  | [b], a => sm a (256 * b)
  | b :: c :: l, a => osum l (sm a (256 * b + c))
theorem sm_rng {a w : Int} (ha : 0 ≤ a ∧ a ≤ 65535) (hw : 0 ≤ w ∧ w ≤ 65535) : 0 ≤ sm a w ∧ sm a w ≤ 65535 := by
  unfold sm; split <;> omega
theorem osum_rng : ∀ (l : List Int) (a : Int), bytesP l → 0 ≤ a ∧ a ≤ 65535 → 0 ≤ osum l a ∧ osum l a ≤ 65535
  | [], a, _, h => h
  | [b], a, hb, h => by
    have := hb b (by simp)
    exact sm_rng h (by omega)
  | b :: c :: l, a, hb, h => by
    have h1 := hb b (by simp)
    have h2 := hb c (by simp)
    exact osum_rng l _ (fun x hx => hb x (by simp [hx])) (sm_rng h (by omega))
theorem sumI {a w : Int} (ha : 0 ≤ a ∧ a ≤ 65535) (hw : 0 ≤ w ∧ w ≤ 65535) : impl_sum a w = some ((sm a w, ()), ()) := by
  unfold impl_sum sm
  rw [w64 (n := a + w) (by omega)]
  by_cases h : 65535 < a + w
  · rw [bif_t (by simpa using h), if_pos h, w64 (by omega)]
  · rw [bif_f (by simpa using h), if_neg h]
theorem word_eq (a : Int) : spec_l02Word a = some ((decide (0 ≤ a) && decide (a ≤ 65535), ()), ()) := by
  unfold spec_l02Word
  cases decide (0 ≤ a) <;> rfl
theorem sumS {a w : Int} (ha : 0 ≤ a ∧ a ≤ 65535) (hw : 0 ≤ w ∧ w ≤ 65535) : spec_SumAdd a w = some ((sm a w, ()), ()) := by
  unfold spec_SumAdd sm
  simp only [word_eq, ha.1, ha.2, hw.1, hw.2, decide_true, Bool.and_true, Option.bind_some, Bool.not_true, Bool.not_false, cond_true, cond_false]
  rw [w64 (n := a + w) (by omega)]
  by_cases h : 65535 < a + w
  · rw [bif_t (by simpa using h), if_pos h, w64 (by omega)]
  · rw [bif_f (by simpa using h), if_neg h]
theorem onesS_run (l : List Int) (hb : bytesP l) (hl : l.length ≤ 1048576) : ∀ (n i k : Nat) (a : Int), l.length ≤ i + n → n < k → i ≤ l.length + 1 → 0 ≤ a ∧ a ≤ 65535 → iter spec_OnesSum_s5 k ((), l, a, (i : Int), ()) = some ((), osum (l.drop i) a, ())
  | n, i, k + 1, a, hn, hk, hi, ha => by
    rw [iter_succ]
    obtain ⟨rec, hrec⟩ : ∃ rec, rec = iter spec_OnesSum_s5 k := ⟨_, rfl⟩
    rw [← hrec]
    by_cases h0 : i < l.length
    · have b1 := hb _ (getD_mem l (0 : Int) i h0)
      have hwi : IntKind.wrap .i64 ((i : Int) + 2) = ((i + 2 : Nat) : Int) := w64 (by omega)
      have hw1 : IntKind.wrap .i64 ((i : Int) + 1) = ((i + 1 : Nat) : Int) := w64 (by omega)
      unfold spec_OnesSum_s5
      refine (bif_t (by simp; omega)).trans ?_
      refine (bif_t (by simp; omega)).trans ?_
      refine (bif_t (by simp; omega)).trans ?_
      simp only [hw1, hwi, Int.toNat_natCast]
      rw [drop_at l (0 : Int) i h0]
      by_cases h1 : i + 1 < l.length
      · have b2 := hb _ (getD_mem l (0 : Int) (i + 1) h1)
        rw [drop_at l (0 : Int) (i + 1) h1]
        refine (bif_t (by simp; omega)).trans ?_
        refine (bif_t (by simp; omega)).trans ?_
        refine (bif_t (by simp; omega)).trans ?_
        rw [w64 (n := l.getD i 0) (by omega), w64 (n := l.getD (i + 1) 0) (by omega), w64 (n := 256 * l.getD i 0) (by omega), w64 (n := 256 * l.getD i 0 + l.getD (i + 1) 0) (by omega), sumS ha (by omega)]
        simp only [Option.bind_some, osum]
        match n, hn with
        | n + 1, hn => rw [hrec]; exact onesS_run l hb hl n (i + 2) k _ (by omega) (by omega) (by omega) (sm_rng ha (by omega))
        | 0, hn => omega
      · refine (bif_f (by simp; omega)).trans ?_
        rw [w64 (n := l.getD i 0) (by omega), w64 (n := 256 * l.getD i 0) (by omega), sumS ha (by omega), List.drop_of_length_le (by omega)]
        simp only [Option.bind_some, osum]
        match n, hn with
        | n + 1, hn =>
          have := onesS_run l hb hl n (i + 2) k (sm a (256 * l.getD i 0)) (by omega) (by omega) (by omega) (sm_rng ha (by omega))
          rw [hrec, this, List.drop_of_length_le (by omega)]; rfl
        | 0, hn => omega
    · unfold spec_OnesSum_s5
      rw [bif_f (by simp; omega), List.drop_of_length_le (by omega)]
      rfl
theorem onesI_run (l : List Int) (hb : bytesP l) (hl : l.length ≤ 1048576) : ∀ (n i k : Nat) (a : Int), l.length ≤ i + n → n < k → i ≤ l.length + 1 → 0 ≤ a ∧ a ≤ 65535 → iter impl_onesSum_s3 k ((), l, a, (i : Int), ()) = some ((), osum (l.drop i) a, ())
  | n, i, k + 1, a, hn, hk, hi, ha => by
    rw [iter_succ]
    obtain ⟨rec, hrec⟩ : ∃ rec, rec = iter impl_onesSum_s3 k := ⟨_, rfl⟩
    rw [← hrec]
    by_cases h0 : i < l.length
    · have b1 := hb _ (getD_mem l (0 : Int) i h0)
      have hwi : IntKind.wrap .i64 ((i : Int) + 2) = ((i + 2 : Nat) : Int) := w64 (by omega)
      have hw1 : IntKind.wrap .i64 ((i : Int) + 1) = ((i + 1 : Nat) : Int) := w64 (by omega)
      have e2 : (2 : Int) ^ min (Int.toNat 8) (IntKind.bits .i64) = 256 := rfl
      unfold impl_onesSum_s3
      refine (bif_t (by simp; omega)).trans ?_
      refine (bif_t (by simp; omega)).trans ?_
      refine (bif_t (by simp; omega)).trans ?_
      simp only [hw1, hwi, Int.toNat_natCast]
      rw [drop_at l (0 : Int) i h0]
      by_cases h1 : i + 1 < l.length
      · have b2 := hb _ (getD_mem l (0 : Int) (i + 1) h1)
        rw [drop_at l (0 : Int) (i + 1) h1]
        refine (bif_t (by simp; omega)).trans ?_
        refine (bif_t (by simp; omega)).trans ?_
        refine (bif_t (by simp; omega)).trans ?_
        rw [w64 (n := l.getD i 0) (by omega), or_byte (by omega) b2, sumI ha (by omega)]
        rw [show l.getD i 0 * 256 + l.getD (i + 1) 0 = 256 * l.getD i 0 + l.getD (i + 1) 0 by omega]
        simp only [Option.bind_some, osum]
        match n, hn with
        | n + 1, hn => rw [hrec]; exact onesI_run l hb hl n (i + 2) k _ (by omega) (by omega) (by omega) (sm_rng ha (by omega))
        | 0, hn => omega
      · refine (bif_f (by simp; omega)).trans ?_
        rw [w64 (n := l.getD i 0) (by omega), e2, w64 (n := l.getD i 0 * 256) (by omega), show l.getD i 0 * 256 = 256 * l.getD i 0 by omega, sumI ha (by omega), List.drop_of_length_le (by omega)]
        simp only [Option.bind_some, osum]
        match n, hn with
        | n + 1, hn =>
          have := onesI_run l hb hl n (i + 2) k (sm a (256 * l.getD i 0)) (by omega) (by omega) (by omega) (sm_rng ha (by omega))
          rw [hrec, this, List.drop_of_length_le (by omega)]; rfl
        | 0, hn => omega
    · unfold impl_onesSum_s3
      rw [bif_f (by simp; omega), List.drop_of_length_le (by omega)]
      rfl
def csum (l : List Int) : Int := bif decide ((2000 : Int) < ((l.length : Nat) : Int)) then -1 else 65535 - osum l 0
theorem csumI (k : Nat) (hk : MM < k) (l : List Int) (hb : bytesP l) : impl_Checksum k l = some ((csum l, ()), ()) := by
  have hM : MM = 1048576 := rfl
  unfold impl_Checksum impl_onesSum csum
  by_cases h : (2000 : Int) < ((l.length : Nat) : Int)
  · rw [bif_t (by simpa using h), bif_t (by simpa using h)]
  · rw [bif_f (by simpa using h), bif_f (by simpa using h)]
    have hr := osum_rng l 0 hb (by omega)
    have run := onesI_run l hb (by omega) l.length 0 k 0 (by omega) (by omega) (by omega) (by omega)
    refine (congrArg (fun o => Option.bind (Option.bind o _) _) run).trans ?_
    simp only [Option.bind_some, List.drop_zero]
    rw [w64 (by omega)]
theorem csumS (k : Nat) (hk : MM < k) (l : List Int) (hb : bytesP l) : spec_Checksum k l = some ((csum l, ()), ()) := by
  have hM : MM = 1048576 := rfl
  unfold spec_Checksum spec_OnesSum csum
  by_cases h : (2000 : Int) < ((l.length : Nat) : Int)
  · rw [bif_t (by simpa using h), bif_t (by simpa using h)]; rfl
  · rw [bif_f (by simpa using h), bif_f (by simpa using h)]
    have hr := osum_rng l 0 hb (by omega)
    have run := onesS_run l hb (by omega) l.length 0 k 0 (by omega) (by omega) (by omega) (by omega)
    refine (congrArg (fun o => Option.bind (Option.bind o _) _) run).trans ?_
    simp only [Option.bind_some, List.drop_zero]
    rw [bif_f (by simp; omega), w64 (by omega)]
end Go.Tw
