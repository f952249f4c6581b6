/- Facts on mirrors. -/
import Derived.Test.YtemcbhjheebnnaaGreatMr
import Derived.Test.YtemcbhjheebnnaaGreatPk0
set_option linter.all false
set_option maxRecDepth 100000
namespace Go.Tw
open Go Go.RowKit
open Go.IntKind renaming wrap → Wr
abbrev az (l : List Int) : Prop := ∀ b ∈ l, 0 ≤ b ∧ b ≤ 255
theorem lF (n : Int) : Wr .u8 n = n % 256 := by
  simp [Wr, IntKind.signed, IntKind.bits]
theorem vL (n : Int) : ∀ (m i : Nat), i < m → (putB n m)[i]? = some ((n / ((256 ^ (m - 1 - i) : Nat) : Int)) % 256)
  | 0, i, h => by omega
  | m + 1, 0, h => by simp [putB]
  | m + 1, i + 1, h => by
    have := vL n m i (by omega)
    simp only [putB, List.getElem?_cons_succ, this]
    congr 5; omega
theorem Jq (e : Nat) : (2 : Int) ^ (8 * e) = ((256 ^ e : Nat) : Int) := by
  rw [Int.pow_mul]
  simp
theorem put_eq (k : Nat) (hk : MM < k) (n : Int) (m : Nat) (hm : m ≤ 8) : mT k n (m : Int) = some ((putB n m, ()), ()) := by
  have hM : MM = 1048576 := rfl
  obtain ⟨T, hT, run⟩ := lk (step := iW) (n := m) (st := fun j (T : List Int) => ((), n, (m : Int), T, (m : Int), (j : Int), ())) (fin := fun T => ((), T, ())) (fun j T => T.length = m ∧ ∀ i, i < j → T[i]? = some ((n / ((256 ^ (m - 1 - i) : Nat) : Int)) % 256))
    (fun j T hj hI => by
      obtain ⟨hl, hI⟩ := hI
      refine ⟨T.set j ((n / ((256 ^ (m - 1 - j) : Nat) : Int)) % 256), ⟨by simpa using hl, fun i hi => ?_⟩, fun rec => ?_⟩
      · rw [List.getElem?_set]
        by_cases e : j = i
        · subst e; simp [hl, hj]
        · rw [if_neg e]; exact hI i (by omega)
      · have hwi : Wr .i64 ((j : Int) + 1) = ((j + 1 : Nat) : Int) := bL (by omega)
        have w1 : Wr .i64 ((m : Int) - 1) = (m : Int) - 1 := bL (by omega)
        have w2 : Wr .i64 ((m : Int) - 1 - (j : Int)) = ((m - 1 - j : Nat) : Int) := by rw [bL (by omega)]; omega
        have w3 : Wr .i64 (8 * ((m - 1 - j : Nat) : Int)) = ((8 * (m - 1 - j) : Nat) : Int) := by rw [bL (by omega)]; omega
        have w4 : min (8 * (m - 1 - j)) (IntKind.bits .i64) = 8 * (m - 1 - j) := by
          have : IntKind.bits .i64 = 64 := rfl
          rw [this]; omega
        unfold iW
        refine (aw (by simp; omega)).trans ?_
        simp only [w1, w2, w3]
        refine (aw (by simp; omega)).trans ?_
        refine (aw (by simp; omega)).trans ?_
        refine (aw (by simp; omega)).trans ?_
        simp only [Int.toNat_natCast, w4, hwi, Jq, lF]
        rw [Int.fdiv_eq_ediv_of_nonneg _ (Int.le_of_lt (na _))])
    (fun T hI rec => by
      unfold iW
      exact aK (by simp)) m 0 k (List.replicate m 0) (by omega) (by omega) ⟨by simp, fun i hi => by omega⟩
  have hT' : T = putB n m := by
    apply List.ext_getElem?
    intro i
    by_cases hi : i < m
    · rw [hT.2 i hi, vL n m i hi]
    · rw [List.getElem?_eq_none (by omega), List.getElem?_eq_none (by rw [aL]; omega)]
  subst hT'
  unfold mT
  rw [aw (by simp; omega)]
  simp only [Int.toNat_natCast, List.length_replicate]
  exact (congrArg (fun o => Option.bind o _) run).trans rfl
theorem j9 (k : Nat) (hk : MM < k) (n : Int) : cG k n = some ((putB n 2, ()), ()) := by
  unfold cG
  rw [show (2 : Int) = ((2 : Nat) : Int) from rfl, put_eq k hk n 2 (by omega)]; rfl
theorem lz (k : Nat) (hk : MM < k) (n : Int) : dL k n = some ((putB n 4, ()), ()) := by
  unfold dL
  rw [show (4 : Int) = ((4 : Nat) : Int) from rfl, put_eq k hk n 4 (by omega)]; rfl
theorem DM (n m : Int) (h1 : 0 < m) (h2 : m ≤ 4294967296) : jT n m = some ((n % m, ()), ()) := by
  unfold jT
  rw [aw (by simp; omega)]
  have he := Int.tmod_eq_emod (a := n) (b := m)
  have hr0 := Int.emod_nonneg n (show m ≠ 0 by omega)
  have hr1 := Int.emod_lt_of_pos n h1
  by_cases hc : 0 ≤ n ∨ m ∣ n
  · rw [if_pos hc] at he
    rw [aK (by simp; omega), he]; simp
  · rw [if_neg hc] at he
    have hnz : n % m ≠ 0 := fun h => hc (.inr (Int.dvd_of_emod_eq_zero h))
    rw [aw (by simp; omega), bL (by omega)]
    congr 3; omega
theorem vM (n : Int) : putB n 2 = [n / 256 % 256, n % 256] := by
  show [n / 256 % 256, n / 1 % 256] = _
  rw [Int.ediv_one]
theorem DN (n : Int) : putB n 4 = [n / 16777216 % 256, n / 65536 % 256, n / 256 % 256, n % 256] := by
  show [n / 16777216 % 256, n / 65536 % 256, n / 256 % 256, n / 1 % 256] = _
  rw [Int.ediv_one]
theorem jk (n : Int) : aY n = some ((putB n 2, ()), ()) := by
  unfold aY
  rw [DM n 65536 (by omega) (by omega)]
  simp only [ai]
  rw [Int.tdiv_eq_ediv_of_nonneg (by omega), Int.tmod_eq_emod_of_nonneg (by omega), bL (by omega), lF, lF, vM]
  have e1 : n % 65536 / 256 % 256 = n / 256 % 256 := by omega
  have e2 : n % 65536 % 256 % 256 = n % 256 := by omega
  rw [e1, e2]
theorem lA (n : Int) : cJ n = some ((putB n 4, ()), ()) := by
  unfold cJ
  rw [DM n 4294967296 (by omega) (by omega)]
  simp only [ai]
  rw [Int.tdiv_eq_ediv_of_nonneg (by omega), Int.tmod_eq_emod_of_nonneg (by omega), bL (by omega), jk, jk]
  simp only [ai]
  rw [vM, vM, DN]
  have e1 : n % 4294967296 / 65536 / 256 % 256 = n / 16777216 % 256 := by omega
  have e2 : n % 4294967296 / 65536 % 256 = n / 65536 % 256 := by omega
  have e3 : n % 4294967296 % 65536 / 256 % 256 = n / 256 % 256 := by omega
  have e4 : n % 4294967296 % 65536 % 256 = n % 256 := by omega
  rw [e1, e2, e3, e4]
  rfl
theorem zl {a b : Int} (ha : 0 ≤ a ∧ a < 18014398509481984) (hb : 0 ≤ b ∧ b ≤ 255) :
    Wr .i64 (BitVec.ofInt (IntKind.bits .i64) (Wr .i64 (a * 2 ^ min (Int.toNat 8) (IntKind.bits .i64))) ||| BitVec.ofInt (IntKind.bits .i64) (Wr .i64 b)).toNat = a * 256 + b := by
  have e : (2 : Int) ^ min (Int.toNat 8) (IntKind.bits .i64) = 256 := rfl
  rw [e, bL (n := a * 256) (by omega), bL (n := b) (by omega)]
  obtain ⟨x, rfl⟩ := Int.eq_ofNat_of_zero_le ha.1
  obtain ⟨y, rfl⟩ := Int.eq_ofNat_of_zero_le hb.1
  have h1 : (BitVec.ofInt (IntKind.bits .i64) ((x : Int) * 256) ||| BitVec.ofInt (IntKind.bits .i64) (y : Int)).toNat = x * 256 + y := by
    rw [BitVec.toNat_or]
    have e1 : (BitVec.ofInt (IntKind.bits .i64) ((x : Int) * 256)).toNat = x * 256 := by
      rw [show ((x : Int) * 256) = ((x * 256 : Nat) : Int) by omega, BitVec.ofInt_natCast, BitVec.toNat_ofNat]
      exact Nat.mod_eq_of_lt (by show x * 256 < 2 ^ 64; omega)
    have e2 : (BitVec.ofInt (IntKind.bits .i64) (y : Int)).toNat = y := by
      rw [BitVec.ofInt_natCast, BitVec.toNat_ofNat]
      exact Nat.mod_eq_of_lt (by show y < 2 ^ 64; omega)
    rw [e1, e2]
    have := Nat.shiftLeft_add_eq_or_of_lt (i := 8) (b := y) (by omega) x
    rw [Nat.shiftLeft_eq] at this
    exact this.symm
  rw [h1, bL (by omega)]
  omega
theorem vN (l : List Int) (b : Int) : df (l ++ [b]) = df l * 256 + b := by simp [df]
theorem oR (k : Nat) (hk : MM < k) (l : List Int) (hb : az l) (hl : l.length ≤ 7) : iX k l = some ((df l, ()), ()) := by
  have hM : MM = 1048576 := rfl
  have pw : ∀ j, j ≤ 6 → ((256 ^ j : Nat) : Int) ≤ 281474976710656 := by decide
  obtain ⟨a, ha, run⟩ := lk (step := iq) (n := l.length) (st := fun j (a : Int) => ((), a, l, (l.length : Int), (j : Int), ())) (fin := fun a => ((), a, ())) (fun j a => a = df (l.take j))
    (fun j a hj hI => by
      refine ⟨df (l.take (j + 1)), rfl, fun rec => ?_⟩
      have hwi : Wr .i64 ((j : Int) + 1) = ((j + 1 : Nat) : Int) := bL (by omega)
      have hbj := hb _ (cb l (0 : Int) j hj)
      have hr := nF (l.take j) (fun x hx => hb x (List.mem_of_mem_take hx))
      rw [List.length_take, ← hI] at hr
      have hp := pw (min j l.length) (by omega)
      unfold iq
      refine (aw (by simp; omega)).trans ?_
      refine (aw (by simp; omega)).trans ?_
      refine (aw (by simp; omega)).trans ?_
      simp only [Int.toNat_natCast]
      rw [hwi, zl (by omega) hbj]
      rw [List.take_add_one, List.getElem?_eq_getElem hj, dT l 0 j hj, hI]
      show rec _ = rec _
      rw [Option.toList_some, vN])
    (fun a hI rec => by
      unfold iq
      exact aK (by simp)) l.length 0 k 0 (by omega) (by omega) (by simp [df])
  rw [List.take_length] at ha
  subst ha
  unfold iX
  exact (congrArg (fun o => Option.bind o _) run).trans rfl
def sm (a w : Int) : Int := if 65535 < a + w then a + w - 65535 else a + w
def osum : List Int → Int → Int
  | [], a => a
  | [b], a => sm a (256 * b)
  | b :: c :: l, a => osum l (sm a (256 * b + c))
theorem mg {a w : Int} (ha : 0 ≤ a ∧ a ≤ 65535) (hw : 0 ≤ w ∧ w ≤ 65535) : 0 ≤ sm a w ∧ sm a w ≤ 65535 := by
  unfold sm; split <;> omega
theorem nb : ∀ (l : List Int) (a : Int), az l → 0 ≤ a ∧ a ≤ 65535 → 0 ≤ osum l a ∧ osum l a ≤ 65535
  | [], a, _, h => h
  | [b], a, hb, h => by
    have := hb b (by simp)
    exact mg h (by omega)
  | b :: c :: l, a, hb, h => by
    have h1 := hb b (by simp)
    have h2 := hb c (by simp)
    exact nb l _ (fun x hx => hb x (by simp [hx])) (mg h (by omega))
theorem AH {a w : Int} (ha : 0 ≤ a ∧ a ≤ 65535) (hw : 0 ≤ w ∧ w ≤ 65535) : jY a w = some ((sm a w, ()), ()) := by
  unfold jY sm
  rw [bL (n := a + w) (by omega)]
  by_cases h : 65535 < a + w
  · rw [aw (by simpa using h), if_pos h, bL (by omega)]
  · rw [aK (by simpa using h), if_neg h]
theorem Gn (a : Int) : jc a = some ((decide (0 ≤ a) && decide (a ≤ 65535), ()), ()) := by
  unfold jc
  cases decide (0 ≤ a) <;> rfl
theorem AI {a w : Int} (ha : 0 ≤ a ∧ a ≤ 65535) (hw : 0 ≤ w ∧ w ≤ 65535) : fz a w = some ((sm a w, ()), ()) := by
  unfold fz sm
  simp only [Gn, ha.1, ha.2, hw.1, hw.2, aI, Bool.and_true, ai, bI, bT, ag, al]
  rw [bL (n := a + w) (by omega)]
  by_cases h : 65535 < a + w
  · rw [aw (by simpa using h), if_pos h, bL (by omega)]
  · rw [aK (by simpa using h), if_neg h]
theorem nJ (l : List Int) (hb : az l) (hl : l.length ≤ 1048576) : ∀ (n i k : Nat) (a : Int), l.length ≤ i + n → n < k → i ≤ l.length + 1 → 0 ≤ a ∧ a ≤ 65535 → iter ez k ((), l, a, (i : Int), ()) = some ((), osum (l.drop i) a, ())
  | n, i, k + 1, a, hn, hk, hi, ha => by
    rw [bd]
    obtain ⟨rec, hrec⟩ : ∃ rec, rec = iter ez k := ⟨_, rfl⟩
    rw [← hrec]
    by_cases h0 : i < l.length
    · have b1 := hb _ (cb l (0 : Int) i h0)
      have hwi : Wr .i64 ((i : Int) + 2) = ((i + 2 : Nat) : Int) := bL (by omega)
      have hw1 : Wr .i64 ((i : Int) + 1) = ((i + 1 : Nat) : Int) := bL (by omega)
      unfold ez
      refine (aw (by simp; omega)).trans ?_
      refine (aw (by simp; omega)).trans ?_
      refine (aw (by simp; omega)).trans ?_
      simp only [hw1, hwi, Int.toNat_natCast]
      rw [gM l (0 : Int) i h0]
      by_cases h1 : i + 1 < l.length
      · have b2 := hb _ (cb l (0 : Int) (i + 1) h1)
        rw [gM l (0 : Int) (i + 1) h1]
        refine (aw (by simp; omega)).trans ?_
        refine (aw (by simp; omega)).trans ?_
        refine (aw (by simp; omega)).trans ?_
        rw [bL (n := l.getD i 0) (by omega), bL (n := l.getD (i + 1) 0) (by omega), bL (n := 256 * l.getD i 0) (by omega), bL (n := 256 * l.getD i 0 + l.getD (i + 1) 0) (by omega), AI ha (by omega)]
        simp only [ai, osum]
        match n, hn with
        | n + 1, hn => rw [hrec]; exact nJ l hb hl n (i + 2) k _ (by omega) (by omega) (by omega) (mg ha (by omega))
        | 0, hn => omega
      · refine (aK (by simp; omega)).trans ?_
        rw [bL (n := l.getD i 0) (by omega), bL (n := 256 * l.getD i 0) (by omega), AI ha (by omega), List.drop_of_length_le (by omega)]
        simp only [ai, osum]
        match n, hn with
        | n + 1, hn =>
          have := nJ l hb hl n (i + 2) k (sm a (256 * l.getD i 0)) (by omega) (by omega) (by omega) (mg ha (by omega))
          rw [hrec, this, List.drop_of_length_le (by omega)]; rfl
        | 0, hn => omega
    · unfold ez
      rw [aK (by simp; omega), List.drop_of_length_le (by omega)]
      rfl
theorem nK (l : List Int) (hb : az l) (hl : l.length ≤ 1048576) : ∀ (n i k : Nat) (a : Int), l.length ≤ i + n → n < k → i ≤ l.length + 1 → 0 ≤ a ∧ a ≤ 65535 → iter eA k ((), l, a, (i : Int), ()) = some ((), osum (l.drop i) a, ())
  | n, i, k + 1, a, hn, hk, hi, ha => by
    rw [bd]
    obtain ⟨rec, hrec⟩ : ∃ rec, rec = iter eA k := ⟨_, rfl⟩
    rw [← hrec]
    by_cases h0 : i < l.length
    · have b1 := hb _ (cb l (0 : Int) i h0)
      have hwi : Wr .i64 ((i : Int) + 2) = ((i + 2 : Nat) : Int) := bL (by omega)
      have hw1 : Wr .i64 ((i : Int) + 1) = ((i + 1 : Nat) : Int) := bL (by omega)
      have e2 : (2 : Int) ^ min (Int.toNat 8) (IntKind.bits .i64) = 256 := rfl
      unfold eA
      refine (aw (by simp; omega)).trans ?_
      refine (aw (by simp; omega)).trans ?_
      refine (aw (by simp; omega)).trans ?_
      simp only [hw1, hwi, Int.toNat_natCast]
      rw [gM l (0 : Int) i h0]
      by_cases h1 : i + 1 < l.length
      · have b2 := hb _ (cb l (0 : Int) (i + 1) h1)
        rw [gM l (0 : Int) (i + 1) h1]
        refine (aw (by simp; omega)).trans ?_
        refine (aw (by simp; omega)).trans ?_
        refine (aw (by simp; omega)).trans ?_
        rw [bL (n := l.getD i 0) (by omega), zl (by omega) b2, AH ha (by omega)]
        rw [show l.getD i 0 * 256 + l.getD (i + 1) 0 = 256 * l.getD i 0 + l.getD (i + 1) 0 by omega]
        simp only [ai, osum]
        match n, hn with
        | n + 1, hn => rw [hrec]; exact nK l hb hl n (i + 2) k _ (by omega) (by omega) (by omega) (mg ha (by omega))
        | 0, hn => omega
      · refine (aK (by simp; omega)).trans ?_
        rw [bL (n := l.getD i 0) (by omega), e2, bL (n := l.getD i 0 * 256) (by omega), show l.getD i 0 * 256 = 256 * l.getD i 0 by omega, AH ha (by omega), List.drop_of_length_le (by omega)]
        simp only [ai, osum]
        match n, hn with
        | n + 1, hn =>
          have := nK l hb hl n (i + 2) k (sm a (256 * l.getD i 0)) (by omega) (by omega) (by omega) (mg ha (by omega))
          rw [hrec, this, List.drop_of_length_le (by omega)]; rfl
        | 0, hn => omega
    · unfold eA
      rw [aK (by simp; omega), List.drop_of_length_le (by omega)]
      rfl
def vO (l : List Int) : Int := bif decide ((2000 : Int) < (l.length : Int)) then -1 else 65535 - osum l 0
theorem MZ (k : Nat) (hk : MM < k) (l : List Int) (hb : az l) : jL k l = some ((vO l, ()), ()) := by
  have hM : MM = 1048576 := rfl
  unfold jL dR vO
  by_cases h : (2000 : Int) < (l.length : Int)
  · rw [aw (by simpa using h), aw (by simpa using h)]
  · rw [aK (by simpa using h), aK (by simpa using h)]
    have hr := nb l 0 hb (by omega)
    have run := nK l hb (by omega) l.length 0 k 0 (by omega) (by omega) (by omega) (by omega)
    refine (congrArg (fun o => Option.bind (Option.bind o _) _) run).trans ?_
    simp only [ai, List.drop_zero]
    rw [bL (by omega)]
theorem M0 (k : Nat) (hk : MM < k) (l : List Int) (hb : az l) : jG k l = some ((vO l, ()), ()) := by
  have hM : MM = 1048576 := rfl
  unfold jG dw vO
  by_cases h : (2000 : Int) < (l.length : Int)
  · rw [aw (by simpa using h), aw (by simpa using h)]; rfl
  · rw [aK (by simpa using h), aK (by simpa using h)]
    have hr := nb l 0 hb (by omega)
    have run := nJ l hb (by omega) l.length 0 k 0 (by omega) (by omega) (by omega) (by omega)
    refine (congrArg (fun o => Option.bind (Option.bind o _) _) run).trans ?_
    simp only [ai, List.drop_zero]
    rw [aK (by simp; omega), bL (by omega)]
theorem nL (x a b : Int) : bG x a b = some ((decide (a ≤ x) && decide (x ≤ b), ()), ()) := by
  unfold bG
  cases decide (a ≤ x) <;> rfl
def dM (n : Int) : Bool := decide (0 ≤ n) && decide (n ≤ 4294967295)
theorem lR (n : Int) : dC n = some ((dM n, ()), ()) := by
  unfold dC; rw [nL]; rfl
theorem mE (n : Int) : dv n = some ((dM n, ()), ()) := by
  unfold dv dM
  cases decide (0 ≤ n) <;> rfl
def bO (a : ar) : Bool :=
  bif decide (a.1 = 4) then decide (a.2.1 = 0) && (decide (a.2.2.1 = 0) && (decide (a.2.2.2.1 = 0) && dM a.2.2.2.2.1)) else decide (a.1 = 6) && (dM a.2.1 && (dM a.2.2.1 && (dM a.2.2.2.1 && dM a.2.2.2.2.1)))
theorem vP (a : ar) : fC a = some ((bO a, ()), ()) := by
  unfold fC bO
  simp only [lR, ai]
  generalize dM a.2.1 = x1
  generalize dM a.2.2.1 = x2
  generalize dM a.2.2.2.1 = x3
  generalize dM a.2.2.2.2.1 = x4
  cases decide (a.1 = 4) <;> cases decide (a.1 = 6) <;> cases decide (a.2.1 = 0) <;> cases decide (a.2.2.1 = 0) <;> cases decide (a.2.2.2.1 = 0) <;> cases x1 <;> cases x2 <;> cases x3 <;> rfl
theorem rb (a : ar) : dh a = some ((bO a, ()), ()) := by
  unfold dh bO
  simp only [mE, ai]
  generalize dM a.2.1 = x1
  generalize dM a.2.2.1 = x2
  generalize dM a.2.2.2.1 = x3
  generalize dM a.2.2.2.2.1 = x4
  cases decide (a.1 = 4) <;> cases decide (a.1 = 6) <;> cases decide (a.2.1 = 0) <;> cases decide (a.2.2.1 = 0) <;> cases decide (a.2.2.2.1 = 0) <;> cases x1 <;> cases x2 <;> cases x3 <;> rfl
theorem vQ : ∀ (ls : List (List Int)) (j : Nat), (ls.take j).flatten.length ≤ ls.flatten.length
  | ls, j => by
    have := congrArg (fun l => (List.flatten l).length) (List.take_append_drop j ls)
    simp only [List.flatten_append, aT] at this
    omega
theorem tf (ls : List (List Int)) (j : Nat) (h : j < ls.length) : (ls.take (j + 1)).flatten = (ls.take j).flatten ++ ls.getD j [] := by
  rw [List.take_add_one, List.getElem?_eq_getElem h, dT ls [] j h]
  simp only [Option.toList_some, List.flatten_append, List.flatten_cons, List.flatten_nil, List.append_nil]
theorem kD (k : Nat) (hk : MM < k) (ls : List (List Int)) (h1 : ls.length ≤ 1000) (h2 : ls.flatten.length ≤ 1100000) : aH k ls = some ((ls.flatten, ()), ()) := by
  have hM : MM = 1048576 := rfl
  obtain ⟨a, ha, r1⟩ := lk (step := cB) (n := ls.length) (st := fun j (a : Int) => ((), ls, a, ls, (ls.length : Int), (j : Int), ())) (fin := fun a => ((), ls, a, ())) (fun j a => a = ((ls.take j).flatten.length : Int))
    (fun j a hj hI => by
      refine ⟨((ls.take (j + 1)).flatten.length : Int), rfl, fun rec => ?_⟩
      have hwi : Wr .i64 ((j : Int) + 1) = ((j + 1 : Nat) : Int) := bL (by omega)
      have e := congrArg List.length (tf ls j hj)
      rw [aT] at e
      have hb := vQ ls (j + 1)
      have hw : Wr .i64 (a + (List.length (ls.getD j []) : Int)) = ((ls.take (j + 1)).flatten.length : Int) := by rw [bL (by omega)]; omega
      unfold cB
      refine (aw (by simp; omega)).trans ?_
      refine (aw (by simp; omega)).trans ?_
      refine (aw (by simp; omega)).trans ?_
      simp only [Int.toNat_natCast, hw, hwi]
      exact aK (ao (by omega)))
    (fun a hI rec => by
      unfold cB
      exact aK (by simp)) ls.length 0 k 0 (by omega) (by omega) (by simp)
  rw [List.take_length] at ha
  obtain ⟨b, hb, r2⟩ := lk (step := bQ) (n := ls.length) (st := fun j (a : List Int) => ((), a, ls, (ls.length : Int), (j : Int), ())) (fin := fun a => ((), a, ())) (fun j a => a = (ls.take j).flatten)
    (fun j a hj hI => by
      refine ⟨(ls.take (j + 1)).flatten, rfl, fun rec => ?_⟩
      have hwi : Wr .i64 ((j : Int) + 1) = ((j + 1 : Nat) : Int) := bL (by omega)
      have e := tf ls j hj
      have el := congrArg List.length e
      rw [aT] at el
      have hb := vQ ls (j + 1)
      unfold bQ
      refine (aw (by simp; omega)).trans ?_
      refine (aw (by simp; omega)).trans ?_
      refine (aw (by simp; omega)).trans ?_
      simp only [Int.toNat_natCast, hwi]
      refine (aw (ae (by rw [hI]; omega))).trans ?_
      rw [e, hI])
    (fun a hI rec => by
      unfold bQ
      exact aK (by simp)) ls.length 0 k [] (by omega) (by omega) (by simp)
  rw [List.take_length] at hb
  subst ha hb
  have hw : Wr .i64 ((ls.flatten.length : Int) - 0) = (ls.flatten.length : Int) := by rw [bL (by omega)]; omega
  obtain ⟨F, hF⟩ : ∃ F, F = ls.flatten := ⟨_, rfl⟩
  rw [← hF] at hw h2 r1 r2 ⊢
  unfold aH
  refine (congrArg (fun o => Option.bind o _) r1).trans ?_
  simp only [ai, hw]
  refine (aK (ao (by omega))).trans ?_
  by_cases h0 : 0 < F.length
  · refine (aw (ae (by omega))).trans ((aw (Bool.and_eq_true_iff.2 ⟨ae (by omega), ae (by omega)⟩)).trans ((aw (ae (by omega))).trans ?_))
    exact (congrArg (fun o => Option.bind o _) r2).trans rfl
  · refine (aK (ao (by omega))).trans ?_
    exact (congrArg (fun o => Option.bind o _) r2).trans rfl
def au (a : ar) : List Int :=
  bif bO a then (bif decide (a.1 = 4) then putB a.2.2.2.2.1 4 else ((putB a.2.1 4 ++ putB a.2.2.1 4) ++ putB a.2.2.2.1 4) ++ putB a.2.2.2.2.1 4) else []
theorem nM (k : Nat) (hk : MM < k) (a : ar) : cD k a = some ((au a, ()), ()) := by
  unfold cD au
  simp only [vP, ai, lz k hk]
  cases bO a with
  | false => rfl
  | true =>
    simp only [bI, ag, al]
    cases decide (a.1 = 4) with
    | true => rfl
    | false =>
      simp only [al]
      rw [kD k hk _ (by simp) (by simp [aL])]
      simp
theorem kC (a : ar) : cA a = some ((au a, ()), ()) := by
  unfold cA au
  simp only [rb, ai, lA, aL, aT]
  cases bO a with
  | false => rfl
  | true =>
    simp only [bI, ag, al]
    cases decide (a.1 = 4) <;> rfl
theorem de (a : ar) : az (au a) := by
  intro b hb
  unfold au at hb
  cases h1 : bO a with
  | false => rw [h1] at hb; simp at hb
  | true =>
    rw [h1] at hb
    cases h2 : decide (a.1 = 4) with
    | true => rw [h2] at hb; exact aC _ _ b hb
    | false =>
      rw [h2] at hb
      simp only [ag, al, List.mem_append] at hb
      rcases hb with ((hb | hb) | hb) | hb <;> exact aC _ _ b hb
def gp (a : ar) : Int := bif decide (a.1 = 4) then 32 else 128
theorem rH {a : ar} (h : bO a = true) : (((au a).length * 8 : Nat) : Int) = gp a := by
  unfold au gp
  rw [h]
  cases decide (a.1 = 4) <;> simp [aL]
def addrOf (l : List Int) : ar × Bool :=
  bif decide ((l.length : Int) = 4) then ((4, 0, 0, 0, df l, ()), true)
  else bif decide ((l.length : Int) = 16) then ((6, df (l.take 4), df ((l.drop 4).take 4), df ((l.drop 8).take 4), df ((l.drop 12).take 4), ()), true)
  else ((0, 0, 0, 0, 0, ()), false)
theorem ey {l : List Int} (h : az l) (i m : Nat) : az ((l.drop i).take m) := fun b hb => h b (List.mem_of_mem_drop (List.mem_of_mem_take hb))
theorem Gp (k : Nat) (hk : MM < k) (l : List Int) (hb : az l) : lf k l = some (((addrOf l).1, (addrOf l).2, ()), ()) := by
  unfold lf addrOf
  by_cases h4 : (l.length : Int) = 4
  · rw [aw (ae h4), aw (ae h4), oR k hk l hb (by omega)]
    rfl
  · rw [aK (ao h4), aK (ao h4)]
    by_cases h16 : (l.length : Int) = 16
    · rw [aw (ae h16), aw (ae h16)]
      have hl : l.length = 16 := by omega
      rw [oR k hk (l.take 4) (fun b h => hb b (List.mem_of_mem_take h)) (by rw [List.length_take]; omega), oR k hk _ (ey hb 4 4) (by rw [List.length_take]; omega), oR k hk _ (ey hb 8 4) (by rw [List.length_take]; omega), oR k hk _ (ey hb 12 _) (by rw [List.length_take]; omega)]
      simp only [ai]
      rw [hl]
      rfl
    · rw [aK (ao h16), aK (ao h16)]
theorem nc (k : Nat) (hk : MM < k) (l : List Int) (hb : az l) (at_ : Nat) (h : at_ + 4 ≤ l.length) (hl : l.length ≤ 100000) : cH k l (at_ : Int) = some ((df ((l.drop at_).take 4), true, ()), ()) := by
  have hM : MM = 1048576 := rfl
  have pw : ∀ j, j ≤ 4 → ((256 ^ j : Nat) : Int) ≤ 4294967296 := by decide
  obtain ⟨a, ha, run⟩ := lk (step := ig) (n := 4) (st := fun j (a : Int) => ((), l, (at_ : Int), a, (j : Int), ())) (fin := fun a => ((), a, ())) (fun j a => a = df ((l.drop at_).take j))
    (fun j a hj hI => by
      refine ⟨df ((l.drop at_).take (j + 1)), rfl, fun rec => ?_⟩
      have hwi : Wr .i64 ((j : Int) + 1) = ((j + 1 : Nat) : Int) := bL (by omega)
      have hwa : Wr .i64 ((at_ : Int) + (j : Int)) = ((at_ + j : Nat) : Int) := by rw [bL (by omega)]; omega
      have hlt : at_ + j < l.length := by omega
      have hbj := hb _ (cb l (0 : Int) (at_ + j) hlt)
      have hr := nF ((l.drop at_).take j) (ey hb at_ j)
      rw [List.length_take, List.length_drop, ← hI] at hr
      have hp := pw (min j (l.length - at_)) (by omega)
      have e : (l.drop at_).take (j + 1) = (l.drop at_).take j ++ [l.getD (at_ + j) 0] := by
        rw [List.take_add_one, List.getElem?_drop, List.getElem?_eq_getElem hlt, dT l 0 _ hlt]; rfl
      unfold ig
      refine (aw (ae (show (j : Int) < 4 by omega))).trans ?_
      simp only [hwa]
      refine (aw (by simp; omega)).trans ?_
      refine (aw (by simp; omega)).trans ?_
      simp only [Int.toNat_natCast, hwi]
      rw [bL (n := l.getD (at_ + j) 0) (by omega), bL (n := 256 * a) (by omega), bL (n := 256 * a + l.getD (at_ + j) 0) (by omega), e, vN, ← hI]
      rw [show 256 * a + l.getD (at_ + j) 0 = a * 256 + l.getD (at_ + j) 0 by omega])
    (fun a hI rec => by
      unfold ig
      exact aK (ao (show ¬ ((4 : Nat) : Int) < 4 by omega))) 4 0 k 0 (by omega) (by omega) (by simp [df])
  unfold cH
  rw [aw (by simp), aK (by rw [bL (by omega)]; simp; omega)]
  subst ha
  exact (congrArg (fun o => Option.bind o _) run).trans rfl
theorem nH (k : Nat) (hk : MM < k) (l : List Int) (hb : az l) : fy k l = some (((addrOf l).1, (addrOf l).2, ()), ()) := by
  unfold fy addrOf
  by_cases h4 : (l.length : Int) = 4
  · have hl : l.length = 4 := by omega
    have e := nc k hk l hb 0 (by omega) (by omega)
    rw [aw (ae h4), aw (ae h4), show (0 : Int) = ((0 : Nat) : Int) from rfl, e, List.drop_zero, List.take_of_length_le (by omega)]
    rfl
  · rw [aK (ao h4), aK (ao h4)]
    by_cases h16 : (l.length : Int) = 16
    · rw [aw (ae h16), aw (ae h16)]
      have hl : l.length = 16 := by omega
      have e0 := nc k hk l hb 0 (by omega) (by omega)
      have e1 := nc k hk l hb 4 (by omega) (by omega)
      have e2 := nc k hk l hb 8 (by omega) (by omega)
      have e3 := nc k hk l hb 12 (by omega) (by omega)
      rw [List.drop_zero] at e0
      rw [show (0 : Int) = ((0 : Nat) : Int) from rfl, show (4 : Int) = ((4 : Nat) : Int) from rfl, show (8 : Int) = ((8 : Nat) : Int) from rfl, show (12 : Int) = ((12 : Nat) : Int) from rfl, e0, e1, e2, e3]
      rfl
    · rw [aK (ao h16), aK (ao h16)]
section
set_option maxHeartbeats 1100000
theorem iH {d : List Int} (hb : az d) (hd : d.length ≤ 100000) (n : Nat) (hn : n + 2 ≤ d.length) : aN d (n : Int) = some ((df ((d.drop n).take 2), true, ()), ()) := by
  have e1 : n < d.length := by omega
  have e2 : n + 1 < d.length := by omega
  have b1 := hb _ (cb d 0 n e1)
  have b2 := hb _ (cb d 0 (n + 1) e2)
  unfold aN
  have w1 : Wr .i64 ((d.length : Int) - 2) = (d.length : Int) - 2 := bL (by omega)
  have w2 : Wr .i64 ((n : Int) + 1) = ((n + 1 : Nat) : Int) := bL (by omega)
  rw [w1, w2, bL (n := d.getD (n : Int).toNat 0) (by rw [Int.toNat_natCast]; omega), bL (n := d.getD ((n + 1 : Nat) : Int).toNat 0) (by rw [Int.toNat_natCast]; omega)]
  rw [Int.toNat_natCast, Int.toNat_natCast]
  rw [bL (n := 256 * d.getD n 0) (by omega), bL (n := 256 * d.getD n 0 + d.getD (n + 1) 0) (by omega)]
  rw [aw (by simp), aK (ao (by omega)), aw (by simp; omega), aw (ae e1), aw (by simp; omega), aw (ae e2)]
  have e : (d.drop n).take 2 = [d.getD n 0, d.getD (n + 1) 0] := by
    rw [dT d 0 n e1, dT d 0 (n + 1) e2, List.drop_eq_getElem_cons e1, List.drop_eq_getElem_cons e2]; rfl
  rw [e]
  simp only [df, List.foldl_cons, List.foldl_nil]
  rw [show (0 * 256 + d.getD n 0) * 256 + d.getD (n + 1) 0 = 256 * d.getD n 0 + d.getD (n + 1) 0 by omega]
theorem Jr (x : List Int) (h : x.length ≤ 1100000) : bw x = some ((x, ()), ()) := by
  unfold bw
  exact aw (ae (by omega))
theorem kT {α : Type} (l : List α) (n : Nat) : List.take (l.length - n) (l.drop n) = l.drop n := List.take_of_length_le (by rw [List.length_drop]; exact Nat.le_refl _)
theorem DO {d : List Int} (hb : az d) (i m : Nat) : 0 ≤ df ((d.drop i).take m) ∧ df ((d.drop i).take m) < ((256 ^ m : Nat) : Int) := by
  have h := nF ((d.drop i).take m) (ey hb i m)
  refine ⟨h.1, Int.lt_of_lt_of_le h.2 ?_⟩
  exact Int.ofNat_le.2 (Nat.pow_le_pow_right (by omega) (by rw [List.length_take]; exact Nat.min_le_left _ _))
theorem iU {d : List Int} (hb : az d) (i : Nat) : 0 ≤ df ((d.drop i).take 2) ∧ df ((d.drop i).take 2) ≤ 65535 := by
  have := DO hb i 2
  exact ⟨this.1, by have := this.2; simp at this; omega⟩
theorem jP {d : List Int} (hb : az d) (i : Nat) : 0 ≤ df ((d.drop i).take 4) ∧ df ((d.drop i).take 4) ≤ 4294967295 := by
  have := DO hb i 4
  exact ⟨this.1, by have := this.2; simp at this; omega⟩
theorem DP {d : List Int} (hd : 14 ≤ d.length) (i : Nat) (hi : i + 6 ≤ d.length) : df ((d.drop i).take 6) = df ((d.drop i).take 2) * 4294967296 + df ((d.drop (i + 2)).take 4) := by
  have e : (d.drop i).take 6 = (d.drop i).take 2 ++ (d.drop (i + 2)).take 4 := by
    rw [show (6 : Nat) = 2 + 4 from rfl, List.take_add, List.drop_drop]
  have l4 : ((d.drop (i + 2)).take 4).length = 4 := by rw [List.length_take, List.length_drop]; omega
  rw [e, zj, l4]
  rfl
def fE (d : List Int) : bH × Int :=
  bif decide (1600 < d.length) then (vw, 1) else bif decide (d.length < 14) then (vw, 2) else
  bif decide (df ((d.drop 12).take 2) = 33024) then (bif decide (d.length < 18) then (vw, 3) else
    bif decide (1536 ≤ df ((d.drop 16).take 2)) && !decide (df ((d.drop 16).take 2) = 33024) then ((df ((d.drop 0).take 6), df ((d.drop 6).take 6), df ((d.drop 14).take 2), df ((d.drop 16).take 2), d.drop 18, ()), 0) else (vw, 4))
  else bif decide (1536 ≤ df ((d.drop 12).take 2)) then ((df ((d.drop 0).take 6), df ((d.drop 6).take 6), -1, df ((d.drop 12).take 2), d.drop 14, ()), 0) else (vw, 4)
theorem Js (k : Nat) (hk : MM < k) (d : List Int) (hb : az d) : jd k d = some (((fE d).1, (fE d).2, ()), ()) := by
  unfold jd fE
  by_cases h1 : 1600 < d.length
  · rw [aw (ae (by omega)), aw (ae h1)]
  rw [aK (ao (by omega)), aK (ao h1)]
  by_cases h2 : d.length < 14
  · rw [aw (ae (by omega)), aw (ae h2)]
  rw [aK (ao (by omega)), aK (ao h2)]
  have b0 : aN d (0:Int) = _ := iH hb (by omega) 0 (by omega)
  have b6 : aN d (6:Int) = _ := iH hb (by omega) 6 (by omega)
  have b12 : aN d (12:Int) = _ := iH hb (by omega) 12 (by omega)
  have f2 : cH k d (2:Int) = _ := nc k hk d hb 2 (by omega) (by omega)
  have f8 : cH k d (8:Int) = _ := nc k hk d hb 8 (by omega) (by omega)
  have cll : decide ((d.length : Int) ≤ (d.length : Int)) = true := ae (Int.le_refl _)
  have PJ : decide ((14 : Int) ≤ (d.length : Int)) = true := ae (by omega)
  have r0 := iU hb 0
  have r6 := iU hb 6
  have r2 := jP hb 2
  have r8 := jP hb 8
  have x0 := DP (d := d) (by omega) 0 (by omega)
  have x6 := DP (d := d) (by omega) 6 (by omega)
  have k0 : Wr .i64 (Wr .i64 (df ((d.drop 0).take 2) * 4294967296) + df ((d.drop 2).take 4)) = df ((d.drop 0).take 6) := by
    rw [bL (n := df ((d.drop 0).take 2) * 4294967296) (by omega), bL (by omega), x0]
  have k6 : Wr .i64 (Wr .i64 (df ((d.drop 6).take 2) * 4294967296) + df ((d.drop 8).take 4)) = df ((d.drop 6).take 6) := by
    rw [bL (n := df ((d.drop 6).take 2) * 4294967296) (by omega), bL (by omega), x6]
  have q := iU hb 12
  have q16 := iU hb 16
  simp only [b0, b6, b12, f2, f8, ai, k0, k6]
  by_cases h3 : df ((d.drop 12).take 2) = 33024
  · rw [ae h3]
    simp only [ag]
    by_cases h4 : d.length < 18
    · rw [ae (show (d.length : Int) < 18 by omega), ae h4]; rfl
    · rw [ao (show ¬ (d.length : Int) < 18 by omega), ao h4]
      have b14 : aN d (14:Int) = _ := iH hb (by omega) 14 (by omega)
      have b16 : aN d (16:Int) = _ := iH hb (by omega) 16 (by omega)
      have Re : decide ((18 : Int) ≤ (d.length : Int)) = true := ae (by omega)
      have cL : decide ((0 + (d.drop 18).length) * 1 ≤ 1099511627776) = true := ae (by rw [List.length_drop]; omega)
      simp only [b14, b16, Re, cll, ag, al, ai, kT, cL, Bool.and_self]
      by_cases h5 : df ((d.drop 16).take 2) < 1536
      · rw [ae h5, ao (show ¬ 1536 ≤ df ((d.drop 16).take 2) by omega)]; rfl
      · rw [ao h5, ae (show 1536 ≤ df ((d.drop 16).take 2) by omega)]
        cases decide (df ((d.drop 16).take 2) = 33024) <;> rfl
  · rw [ao h3]
    have cL : decide ((0 + (d.drop 14).length) * 1 ≤ 1099511627776) = true := ae (by rw [List.length_drop]; omega)
    simp only [al, PJ, cll, kT, cL, Bool.and_self, ag]
    by_cases h5 : df ((d.drop 12).take 2) < 1536
    · rw [ae h5, ao (show ¬ 1536 ≤ df ((d.drop 12).take 2) by omega)]; rfl
    · rw [ao h5, ae (show 1536 ≤ df ((d.drop 12).take 2) by omega)]; rfl
end
section
set_option maxHeartbeats 1100000
theorem pJ {α : Type} (b : Bool) (X Y : α) : (bif (!(!b)) then X else Y) = bif b then X else Y := by cases b <;> rfl
theorem bn {α : Type} (b : Bool) (X Y : α) : (bif (!b) then X else Y) = bif b then Y else X := by cases b <;> rfl
theorem ka (b c : Bool) : (bif b then some ((c, ()), ()) else some ((false, ()), ())) = some ((b && c, ()), ()) := by cases b <;> rfl
theorem ll (b c : Bool) : (bif b then some ((false, ()), ()) else some ((c, ()), ())) = some ((!b && c, ()), ()) := by cases b <;> rfl
def gq (x a b : Int) : Bool := decide (a ≤ x) && decide (x ≤ b)
theorem uD (x a b : Int) : bG x a b = some ((gq x a b, ()), ()) := nL x a b
theorem oc (x b : Int) : bo x b = some ((gq x 0 b, ()), ()) := by
  unfold bo gq
  cases decide (0 ≤ x) <;> rfl
theorem Ir (x : Int) : jX x = some ((gq x 0 65535, ()), ()) := by unfold jX; rw [uD]; rfl
theorem kf (x : Int) : dj x = some ((gq x 0 255, ()), ()) := by unfold dj; rw [uD]; rfl
theorem fV {x a b : Int} : gq x a b = true ↔ a ≤ x ∧ x ≤ b := by unfold gq; simp
def vg (a : ar) (n : Int) : Bool := bO a && decide (a.1 = n)
theorem Qu (a : ar) (n : Int) : fL a n = some ((vg a n, ()), ()) := by
  unfold fL vg
  rw [vP, ai, ka]
def dN (f : aR) : Bool := gq f.1 0 63 && (gq f.2.1 0 3 && (gq f.2.2.1 0 65535 && (gq f.2.2.2.1 0 7 && (gq f.2.2.2.2.1 0 8191 && (gq f.2.2.2.2.2.1 0 255 && (gq f.2.2.2.2.2.2.1 0 255 && (vg f.2.2.2.2.2.2.2.1 4 && (vg f.2.2.2.2.2.2.2.2.1 4 && (decide ((f.2.2.2.2.2.2.2.2.2.1.length : Int) ≤ 40) && (decide (Int.tmod (f.2.2.2.2.2.2.2.2.2.1.length : Int) 4 = 0) && decide (20 + (f.2.2.2.2.2.2.2.2.2.1.length : Int) + (f.2.2.2.2.2.2.2.2.2.2.1.length : Int) ≤ 1500)))))))))))
abbrev fO (f : aR) : List Int := f.2.2.2.2.2.2.2.2.2.1
abbrev fB (f : aR) : List Int := f.2.2.2.2.2.2.2.2.2.2.1
theorem DQ (f : aR) (h1 : (fO f).length ≤ 1100000) (h2 : (fB f).length ≤ 1100000) : iE f = some ((20 + (((fO f).length : Nat) : Int) + (((fB f).length : Nat) : Int), ()), ()) := by
  unfold iE gE
  have h1' : f.2.2.2.2.2.2.2.2.2.1.length ≤ 1100000 := h1
  have h2' : f.2.2.2.2.2.2.2.2.2.2.1.length ≤ 1100000 := h2
  simp only [ai]
  rw [bL (n := 20 + _) (by omega), bL (by omega)]
theorem zm (f : aR) (h1 : (fO f).length ≤ 1100000) (h2 : (fB f).length ≤ 1100000) : gm f = some ((dN f, ()), ()) := by
  unfold gm
  simp only [uD, Ir, kf, Qu, DQ f h1 h2, ai, pJ, bn, ka, ll]
  rfl
theorem vF (f : aR) (h1 : (fO f).length ≤ 1100000) (h2 : (fB f).length ≤ 1100000) : eQ f = some ((dN f, ()), ()) := by
  unfold eQ
  simp only [oc, rb, ai, pJ, bn, ka, ll]
  have h1' : f.2.2.2.2.2.2.2.2.2.1.length ≤ 1100000 := h1
  have h2' : f.2.2.2.2.2.2.2.2.2.2.1.length ≤ 1100000 := h2
  unfold dN vg
  generalize f.2.2.2.2.2.2.2.2.2.1.length = n1 at h1' ⊢
  generalize f.2.2.2.2.2.2.2.2.2.2.1.length = n2 at h2' ⊢
  rw [bL (n := 1480 - (n1 : Int)) (by omega)]
  have e : decide ((n2 : Int) ≤ 1480 - (n1 : Int)) = decide (20 + (n1 : Int) + (n2 : Int) ≤ 1500) := by
    by_cases h : (n2 : Int) ≤ 1480 - (n1 : Int)
    · rw [ae h, ae (by omega)]
    · rw [ao h, ao (by omega)]
  have e2 : (!decide (40 < (n1 : Int))) = decide ((n1 : Int) ≤ 40) := by
    by_cases h : (n1 : Int) ≤ 40
    · rw [ae h, ao (by omega)]; rfl
    · rw [ao h, ae (by omega)]; rfl
  rw [e, e2]
  generalize bO f.2.2.2.2.2.2.2.1 = x8
  generalize bO f.2.2.2.2.2.2.2.2.1 = x9
  generalize decide (f.2.2.2.2.2.2.2.1.1 = 4) = y1
  generalize decide (f.2.2.2.2.2.2.2.2.1.1 = 4) = y2
  cases x8 <;> cases x9 <;> cases y1 <;> cases y2 <;> simp
end
theorem Is (a : ar) : jW a = some ((gp a, ()), ()) := by unfold jW gp; cases decide (a.1 = 4) <;> rfl
theorem zn (a : ar) : ie a = some ((gp a, ()), ()) := by unfold ie gp; cases decide (a.1 = 4) <;> rfl
def gn (x : Int) : Nat := if x < 0 then 0 else if 8 < x then 8 else x.toNat
def kc (b : Int) (t : Nat) : Int := Wr .u8 (BitVec.ofInt (IntKind.bits .u8) b &&& BitVec.ofInt (IntKind.bits .u8) (Wr .u8 (Int.fdiv 65280 (2 ^ min t (IntKind.bits .u16))))).toNat
def qz (p : Nat) : Int := ((128 / 2 ^ p : Nat) : Int)
def c1 (b : Int) (p : Nat) : Int := if b / qz p % 2 = 1 then b - qz p else b
def clr8 (b : Int) (lo : Nat) : Nat → Int
  | 0 => b
  | h + 1 => if lo ≤ h then c1 (clr8 b lo h) h else clr8 b lo h
theorem DR : ∀ (n : Fin 256) (t : Fin 9), clr8 (n.val : Int) t.val 8 = kc (n.val : Int) t.val := by decide +kernel
theorem Gq {b : Int} (hb : 0 ≤ b ∧ b ≤ 255) {t : Nat} (ht : t ≤ 8) : clr8 b t 8 = kc b t := by
  have := DR ⟨b.toNat, by omega⟩ ⟨t, by omega⟩
  simpa [Int.toNat_of_nonneg hb.1] using this
theorem Jt : ∀ (n : Fin 256) (p : Fin 8), 0 ≤ c1 (n.val : Int) p.val ∧ c1 (n.val : Int) p.val ≤ 255 := by decide +kernel
theorem DT {b : Int} (hb : 0 ≤ b ∧ b ≤ 255) {p : Nat} (hp : p < 8) : 0 ≤ c1 b p ∧ c1 b p ≤ 255 := by
  have := Jt ⟨b.toNat, by omega⟩ ⟨p, hp⟩
  simpa [Int.toNat_of_nonneg hb.1] using this
theorem rI {b : Int} (hb : 0 ≤ b ∧ b ≤ 255) (lo : Nat) : ∀ h, h ≤ 8 → 0 ≤ clr8 b lo h ∧ clr8 b lo h ≤ 255
  | 0, _ => hb
  | h + 1, hh => by
    simp only [clr8]
    split
    · exact DT (rI hb lo h (by omega)) (by omega)
    · exact rI hb lo h (by omega)
theorem zo (b : Int) (lo : Nat) : ∀ h, h ≤ lo → clr8 b lo h = b
  | 0, _ => rfl
  | h + 1, hh => by
    simp only [clr8]
    rw [if_neg (by omega), zo b lo h (by omega)]
theorem vE (x : Int) : gn x ≤ 8 := by
  unfold gn
  split
  · omega
  · split <;> omega
theorem AJ {x y : Int} (h : (8 ≤ x ∧ 8 ≤ y) ∨ (x ≤ 0 ∧ y ≤ 0)) : gn x = gn y := by
  unfold gn
  repeat' split
  all_goals omega
def eM (n : Int) (l : List Int) : List Int := (List.range l.length).map fun j => kc (l.getD j 0) (gn (n - 8 * (j : Int)))
theorem xY (b : Int) (t : Nat) : 0 ≤ kc b t ∧ kc b t ≤ 255 := by unfold kc; rw [lF]; omega
theorem gZ (n : Int) (l : List Int) : az (eM n l) := by
  intro b hb
  obtain ⟨j, _, rfl⟩ := List.mem_map.1 hb
  exact xY _ _
theorem M3 (n : Int) : nE n 0 8 = some ((((gn n : Nat) : Int), ()), ()) := by
  unfold nE gn
  by_cases h1 : n < 0
  · rw [aw (by simpa using h1), if_pos h1]; rfl
  · rw [aK (by simpa using h1), if_neg h1]
    by_cases h2 : 8 < n
    · rw [aw (by simpa using h2), if_pos h2]; rfl
    · rw [aK (by simpa using h2), if_neg h2, Int.toNat_of_nonneg (by omega)]
theorem DU (k : Nat) (hk : MM < k) (n : Int) (hn : 0 ≤ n ∧ n ≤ 128) (z : ar) (l : List Int) (hl : l.length ≤ 100) :
    iter gT k ((), n, z, l, (l.length : Int), (0 : Int), ()) = some ((), z, eM n l, ()) := by
  have hM : MM = 1048576 := rfl
  obtain ⟨T, hT, run⟩ := lk (step := gT) (n := l.length) (st := fun j (T : List Int) => ((), n, z, T, (l.length : Int), (j : Int), ())) (fin := fun T => ((), z, T, ())) (fun j T => T.length = l.length ∧ ∀ i, i < l.length → T[i]? = some (if i < j then kc (l.getD i 0) (gn (n - 8 * (i : Int))) else l.getD i 0))
    (fun j T hj hI => by
      obtain ⟨hlen, hI⟩ := hI
      refine ⟨T.set j (kc (l.getD j 0) (gn (n - 8 * (j : Int)))), ⟨by simpa using hlen, fun i hi => ?_⟩, fun rec => ?_⟩
      · rw [List.getElem?_set]
        by_cases e : j = i
        · subst e; simp [hlen, hj]
        · rw [if_neg e, hI i hi]
          congr 1
          by_cases h1 : i < j
          · rw [if_pos h1, if_pos (by omega)]
          · rw [if_neg h1, if_neg (by omega)]
      · have hwi : Wr .i64 ((j : Int) + 1) = ((j + 1 : Nat) : Int) := bL (by omega)
        have w1 : Wr .i64 (8 * (j : Int)) = 8 * (j : Int) := bL (by omega)
        have w2 : Wr .i64 (n - 8 * (j : Int)) = n - 8 * (j : Int) := bL (by omega)
        have hTj : T.getD j 0 = l.getD j 0 := by
          have := hI j hj
          rw [if_neg (by omega)] at this
          simp only [List.getD, this, Option.getD_some]
        unfold gT
        refine (aw (by simp; omega)).trans ?_
        simp only [w1, w2, M3, ai]
        refine (aw (by simp; omega)).trans ?_
        refine (aw (by simp; omega)).trans ?_
        refine (aw (by simp)).trans ?_
        refine (aw (by simp; omega)).trans ?_
        refine (aw (by simp; omega)).trans ?_
        simp only [Int.toNat_natCast, hwi, hTj]
        rfl)
    (fun T hI rec => by
      unfold gT
      exact aK (by simp)) l.length 0 k l (by omega) (by omega) ⟨rfl, fun i hi => by rw [if_neg (by omega), List.getElem?_eq_getElem hi, dT l 0 i hi]⟩
  have hT' : T = eM n l := by
    apply List.ext_getElem?
    intro i
    by_cases hi : i < l.length
    · rw [hT.2 i hi, if_pos hi]; simp [eM, hi]
    · rw [List.getElem?_eq_none (by omega), List.getElem?_eq_none (by simp [eM]; omega)]
  subst hT'
  exact run
def zp : Int → Nat → Int
  | b, 0 => b
  | b, p + 1 => zp (b / 2) p
theorem DV : ∀ p : Fin 8, zp 128 p.val = qz p.val := by decide
theorem DW (A Z : ar) (T : List Int) (i : Int) : ∀ (p k : Nat) (b : Int), p < k → p ≤ 8 → 0 ≤ b ∧ b ≤ 128 → iter gP k ((), A, Z, T, i, b, (p : Int), ()) = some ((), A, Z, T, i, zp b p, ())
  | 0, k + 1, b, _, _, hb => by
    rw [bd]; unfold gP
    exact aK (by simp)
  | p + 1, k + 1, b, hk, hp, hb => by
    rw [bd]
    obtain ⟨rec, hrec⟩ : ∃ rec, rec = iter gP k := ⟨_, rfl⟩
    rw [← hrec]
    have w1 : Wr .i64 (((p + 1 : Nat) : Int) - 1) = (p : Int) := by rw [bL (by omega)]; omega
    have w2 : Wr .i64 (Int.tdiv b 2) = b / 2 := by rw [Int.tdiv_eq_ediv_of_nonneg hb.1, bL (by omega)]
    unfold gP
    refine (aw (ae (show (0 : Int) < ((p + 1 : Nat) : Int) by omega))).trans ?_
    simp only [w1, w2]
    rw [hrec]
    exact DW A Z T i p k (b / 2) (by omega) (by omega) (by omega)
theorem Gr : ∀ p : Fin 8, 0 < qz p.val ∧ qz p.val ≤ 128 := by decide
theorem DX (k : Nat) (hk : MM < k) (A Z : ar) (n : Nat) (l : List Int) (hb : az l) (hl : ((l.length * 8 : Nat) : Int) = gp A) (hn : n ≤ l.length * 8) (hl2 : l.length ≤ 100) :
    iter (gQ k) k ((), A, Z, l, (n : Int), ()) = some ((), Z, eM (n : Int) l, ()) := by
  have hM : MM = 1048576 := rfl
  have ck : ∀ x : Nat, gn (((n + x : Nat) : Int)) = gn (((n + x : Nat) : Int)) := fun _ => rfl
  obtain ⟨T, hT, run⟩ := lk (step := gQ k) (n := l.length * 8 - n) (st := fun j (T : List Int) => ((), A, Z, T, ((n + j : Nat) : Int), ())) (fin := fun T => ((), Z, T, ())) (fun j T => T.length = l.length ∧ ∀ i, i < l.length → T[i]? = some (clr8 (l.getD i 0) (gn ((n : Int) - 8 * (i : Int))) (gn (((n + j : Nat) : Int) - 8 * (i : Int)))))
    (fun j T hj hI => by
      obtain ⟨hlen, hI⟩ := hI
      obtain ⟨q, hq⟩ : ∃ q, q = (n + j) / 8 := ⟨_, rfl⟩
      obtain ⟨p, hp⟩ : ∃ p, p = (n + j) % 8 := ⟨_, rfl⟩
      have hqp : n + j = 8 * q + p := by omega
      have hp8 : p < 8 := by omega
      have hql : q < l.length := by omega
      have hbq := hb _ (cb l (0 : Int) q hql)
      have ep : gn (((n + j : Nat) : Int) - 8 * (q : Int)) = p := by unfold gn; rw [if_neg (by omega), if_neg (by omega)]; omega
      have ep1 : gn (((n + (j + 1) : Nat) : Int) - 8 * (q : Int)) = p + 1 := by
        unfold gn; rw [if_neg (by omega)]
        split <;> omega
      have elo : gn ((n : Int) - 8 * (q : Int)) ≤ p := by
        unfold gn
        split
        · omega
        · split <;> omega
      have hTq : T.getD q 0 = clr8 (l.getD q 0) (gn ((n : Int) - 8 * (q : Int))) p := by
        have := hI q hql
        rw [ep] at this
        simp only [List.getD, this, Option.getD_some]
      obtain ⟨b, hbd⟩ : ∃ b, b = clr8 (l.getD q 0) (gn ((n : Int) - 8 * (q : Int))) p := ⟨_, rfl⟩
      have hbr : 0 ≤ b ∧ b ≤ 255 := by rw [hbd]; exact rI hbq _ p (by omega)
      rw [← hbd] at hTq
      have hnew : clr8 (l.getD q 0) (gn ((n : Int) - 8 * (q : Int))) (p + 1) = c1 b p := by
        simp only [clr8]; rw [if_pos elo, ← hbd]
      refine ⟨T.set q (c1 b p), ⟨by simpa using hlen, fun i hi => ?_⟩, fun rec => ?_⟩
      · rw [List.getElem?_set]
        by_cases e : q = i
        · subst e
          simp only [hlen, hql, if_true]
          rw [ep1, hnew]
        · rw [if_neg e, hI i hi]
          congr 2
          refine AJ ?_
          by_cases h1 : i < q
          · left; omega
          · right; omega
      · have hwi : Wr .i64 (((n + j : Nat) : Int) + 1) = ((n + (j + 1) : Nat) : Int) := by rw [bL (by omega)]; omega
        have wd : Wr .i64 (Int.tdiv ((n + j : Nat) : Int) 8) = (q : Int) := by rw [Int.tdiv_eq_ediv_of_nonneg (by omega), bL (by omega)]; omega
        have wm : Int.tmod ((n + j : Nat) : Int) 8 = (p : Int) := by rw [Int.tmod_eq_emod_of_nonneg (by omega)]; omega
        have hs9 := DW A Z T ((n + j : Nat) : Int) p k 128 (by omega) (by omega) (by omega)
        have hbp := Gr ⟨p, hp8⟩
        simp only at hbp
        rw [show zp 128 p = qz p from DV ⟨p, hp8⟩] at hs9
        unfold gQ
        simp only [zn, ai, wm, hs9]
        refine (aw (ae (by omega))).trans ?_
        simp only [wd]
        have g1 : (decide ((0 : Int) ≤ (q : Int)) && decide ((q : Int) < (T.length : Int))) = true := by simp; omega
        have g2 : decide ((q : Int).toNat < T.length) = true := ae (by omega)
        refine (aw g1).trans ?_
        refine (aw g2).trans ?_
        refine (aw (by simp; omega)).trans ?_
        simp only [Int.toNat_natCast] at g2
        simp only [Int.toNat_natCast, hTq, g1, g2, ag, hwi]
        rw [bL (n := b) (by omega), Int.tdiv_eq_ediv_of_nonneg hbr.1]
        have hdiv : 0 ≤ b / qz p ∧ b / qz p ≤ 255 := ⟨Int.ediv_nonneg hbr.1 (by omega), Int.le_trans (Int.ediv_le_self _ hbr.1) hbr.2⟩
        rw [bL (n := b / qz p) (by omega), Int.tmod_eq_emod_of_nonneg hdiv.1]
        have hc := DT hbr hp8
        unfold c1 at hc ⊢
        by_cases h1 : b / qz p % 2 = 1
        · rw [aw (ae h1), if_pos h1]
          rw [if_pos h1] at hc
          rw [lF (qz p), lF, Int.emod_eq_of_lt (a := qz p) (by omega) (by omega), Int.emod_eq_of_lt hc.1 (by omega)]
        · rw [aK (ao h1), if_neg h1]
          have : T.set q b = T := by
            apply List.ext_getElem?
            intro i
            rw [List.getElem?_set]
            by_cases e : q = i
            · subst e
              rw [if_pos rfl, if_pos (by omega), hI q hql, ep, hbd]
            · rw [if_neg e]
          rw [this])
    (fun T hI rec => by
      unfold gQ
      simp only [zn, ai]
      exact aK (ao (by omega))) (l.length * 8 - n) 0 k l (by omega) (by omega) ⟨rfl, fun i hi => by
        rw [Nat.add_zero, zo _ _ _ (Nat.le_refl _), List.getElem?_eq_getElem hi, dT l 0 i hi]⟩
  have hT' : T = eM (n : Int) l := by
    apply List.ext_getElem?
    intro i
    by_cases hi : i < l.length
    · have e8 : gn (((n + (l.length * 8 - n) : Nat) : Int) - 8 * (i : Int)) = 8 := by
        unfold gn; rw [if_neg (by omega)]
        split <;> omega
      rw [hT.2 i hi, e8, Gq (hb _ (cb l (0 : Int) i hi)) (vE _)]; simp [eM, hi]
    · rw [List.getElem?_eq_none (by omega), List.getElem?_eq_none (by simp [eM]; omega)]
  subst hT'
  exact run
def zA : ar := (0, 0, 0, 0, 0, ())
def lK (a : ar) (n : Int) : ar := bif bO a && (decide (0 ≤ n) && decide (n ≤ gp a)) then (addrOf (eM n (au a))).1 else zA
theorem zq (a : ar) : 0 ≤ gp a ∧ gp a ≤ 128 := by unfold gp; cases decide (a.1 = 4) <;> decide
theorem Je (k : Nat) (hk : MM < k) (a : ar) (n : Int) : lH k a n = some ((lK a n, ()), ()) := by
  have hM : MM = 1048576 := rfl
  unfold lH lK
  simp only [vP, Is, nL, ai]
  cases ha : bO a with
  | false => rfl
  | true =>
    have hlen := rH ha
    have hbl := zq a
    simp only [bI, bT, ag, Bool.true_and]
    cases hn : (decide (0 ≤ n) && decide (n ≤ gp a)) with
    | false => rfl
    | true =>
      simp only [aA, bF] at hn
      simp only [bI, ag, al, nM k hk, ai]
      refine (congrArg (fun o => Option.bind o _) (DU k hk n (by omega) _ (au a) (by omega))).trans ?_
      simp only [ai, Gp k hk _ (gZ n (au a))]
theorem Ju (a b : Int) : decide (a < b) = !decide (b ≤ a) := by
  by_cases h : a < b <;> by_cases h2 : b ≤ a <;> simp [h, h2] <;> omega
theorem Jf (k : Nat) (hk : MM < k) (a : ar) (n : Int) : lG k a n = some ((lK a n, ()), ()) := by
  have hM : MM = 1048576 := rfl
  unfold lG lK
  simp only [rb, zn, ai, Ju n 0, Ju (gp a) n]
  cases ha : bO a with
  | false => rfl
  | true =>
    have hlen := rH ha
    have hbl := zq a
    simp only [bI, bT, ag, Bool.true_and, Bool.not_not]
    cases hn0 : decide (0 ≤ n) with
    | false => rfl
    | true =>
    cases hn1 : decide (n ≤ gp a) with
    | false => rfl
    | true =>
      simp only [bF] at hn0 hn1
      obtain ⟨m, rfl⟩ := Int.eq_ofNat_of_zero_le hn0
      simp only [bI, ag, al, kC, ai, Bool.and_true]
      refine (congrArg (fun o => Option.bind o _) (DX k hk a _ m (au a) (de a) hlen (by omega) (by omega))).trans ?_
      simp only [ai, nH k hk _ (gZ _ (au a))]
def ML (a b : ar) : Bool := decide (a.1 = b.1) && (decide (a.2.1 = b.2.1) && (decide (a.2.2.1 = b.2.2.1) && (decide (a.2.2.2.1 = b.2.2.2.1) && (decide (a.2.2.2.2.1 = b.2.2.2.2.1) && true))))
def iT (p : bx) : Bool := ML p.1 zA && (decide (p.2.1 = 0) && true)
theorem anyI (p : bx) : jr p = some ((iT p, ()), ()) := rfl
theorem anyS (p : bx) : gl p = some ((iT p, ()), ()) := rfl
def gB (p : bx) : Bool := iT p || (bO p.1 && ((decide (0 ≤ p.2.1) && decide (p.2.1 ≤ gp p.1)) && ML (lK p.1 p.2.1) p.1))
theorem It (k : Nat) (hk : MM < k) (p : bx) : fK k p = some ((gB p, ()), ()) := by
  unfold fK gB
  simp only [anyI, vP, Is, nL, Je k hk, ai]
  cases iT p with
  | true => rfl
  | false =>
    cases bO p.1 with
    | false => rfl
    | true =>
      cases (decide (0 ≤ p.2.1) && decide (p.2.1 ≤ gp p.1)) <;> rfl
theorem Dt (k : Nat) (hk : MM < k) (p : bx) : eP k p = some ((gB p, ()), ()) := by
  unfold eP gB
  simp only [anyS, rb, zn, Jf k hk, ai]
  cases iT p with
  | true => rfl
  | false =>
    cases bO p.1 with
    | false => rfl
    | true =>
      cases decide (0 ≤ p.2.1) <;> cases decide (p.2.1 ≤ gp p.1) <;> rfl
def xZ (lo hi : Int) : Bool := decide (0 ≤ lo) && (decide (lo ≤ hi) && decide (hi ≤ 65535))
theorem PZ (lo hi : Int) : kq lo hi = some ((xZ lo hi, ()), ()) := by
  unfold kq xZ
  cases decide (0 ≤ lo) <;> cases decide (lo ≤ hi) <;> rfl
theorem P0 (lo hi : Int) : jE lo hi = some ((xZ lo hi, ()), ()) := by
  unfold jE xZ
  cases decide (0 ≤ lo) <;> cases decide (lo ≤ hi) <;> rfl
def mD (a b : bx) : Bool := gB a && (gB b && (!iT a && (!iT b && (decide (a.1.1 = b.1.1) && decide (a.2.1 = b.2.1)))))
theorem M4 (k : Nat) (hk : MM < k) (a b : bx) : jg k a b = some ((mD a b, ()), ()) := by
  unfold jg mD
  simp only [It k hk, anyI, ai]
  cases gB a <;> cases gB b <;> cases iT a <;> cases iT b <;> cases decide (a.1.1 = b.1.1) <;> rfl
theorem Il (k : Nat) (hk : MM < k) (a b : bx) : gD k a b = some ((mD a b, ()), ()) := by
  unfold gD mD
  simp only [Dt k hk, anyS, ai]
  cases gB a <;> cases gB b <;> cases iT a <;> cases iT b <;> cases decide (a.1.1 = b.1.1) <;> rfl
def z3 (pr lo hi : Int) : Bool := decide (pr = 0) && (decide (lo = 0) && decide (hi = 0))
def nX (m : aV) : Bool :=
  bif decide (m.1 = 1) then gB m.2.1 && (gB m.2.2.1 && (gq m.2.2.2.1 (-1) 255 && (xZ m.2.2.2.2.1 m.2.2.2.2.2.1 && decide (m.2.2.2.2.2.2.1 = 0))))
  else bif decide (m.1 = 2) || decide (m.1 = 3) then mD m.2.1 m.2.2.1 && (z3 m.2.2.2.1 m.2.2.2.2.1 m.2.2.2.2.2.1 && decide (m.2.2.2.2.2.2.1 = 0))
  else bif decide (m.1 = 5) then (iT m.2.1 && iT m.2.2.1) && (z3 m.2.2.2.1 m.2.2.2.2.1 m.2.2.2.2.2.1 && gq m.2.2.2.2.2.2.1 0 63)
  else bif decide (m.1 = 7) then (iT m.2.1 && iT m.2.2.1) && (z3 m.2.2.2.1 m.2.2.2.2.1 m.2.2.2.2.2.1 && gq m.2.2.2.2.2.2.1 1 4)
  else bif decide (m.1 = 4) || decide (m.1 = 6) then (iT m.2.1 && iT m.2.2.1) && (z3 m.2.2.2.1 m.2.2.2.2.1 m.2.2.2.2.2.1 && decide (m.2.2.2.2.2.2.1 = 0))
  else false
theorem kinds (c : Int) : c = 1 ∨ c = 2 ∨ c = 3 ∨ c = 4 ∨ c = 5 ∨ c = 6 ∨ c = 7 ∨ (c ≠ 1 ∧ c ≠ 2 ∧ c ≠ 3 ∧ c ≠ 4 ∧ c ≠ 5 ∧ c ≠ 6 ∧ c ≠ 7 ∧ ((1 ≤ c ∧ ¬ c ≤ 7) ∨ (¬ 1 ≤ c ∧ c ≤ 7))) := by omega
theorem DY (p : bx) : (((decide (p.1.1 = 0)) && ((decide (p.1.2.1 = 0)) && ((decide (p.1.2.2.1 = 0)) && ((decide (p.1.2.2.2.1 = 0)) && ((decide (p.1.2.2.2.2.1 = 0)) && true))))) && ((decide (p.2.1 = 0)) && true)) = iT p := rfl
theorem Jl (k : Nat) (hk : MM < k) (m : aV) : jK k m = some ((nX m, ()), ()) := by
  obtain ⟨c, f, t, pr, lo, hi, n, u⟩ := m
  unfold jK jz jy jx jw nX z3
  simp only [It k hk, uD, PZ, M4 k hk, DY, ai]
  generalize gB f = b1
  generalize gB t = b2
  generalize iT f = b3
  generalize iT t = b4
  generalize mD f t = b5
  generalize xZ lo hi = b6
  generalize gq pr (-1) 255 = b7
  generalize gq n 0 63 = b8
  generalize gq n 1 4 = b9
  generalize decide (n = 0) = a1
  generalize decide (pr = 0) = a2
  generalize decide (lo = 0) = a3
  generalize decide (hi = 0) = a4
  rcases kinds c with rfl | rfl | rfl | rfl | rfl | rfl | rfl | ⟨h1, h2, h3, h4, h5, h6, h7, _⟩
  · cases b1 <;> cases b2 <;> cases b7 <;> cases b6 <;> cases a1 <;> rfl
  · cases b5 <;> cases a1 <;> cases a2 <;> cases a3 <;> cases a4 <;> rfl
  · cases b5 <;> cases a1 <;> cases a2 <;> cases a3 <;> cases a4 <;> rfl
  · cases b3 <;> cases b4 <;> cases a1 <;> cases a2 <;> cases a3 <;> cases a4 <;> rfl
  · cases b3 <;> cases b4 <;> cases b8 <;> cases a2 <;> cases a3 <;> cases a4 <;> rfl
  · cases b3 <;> cases b4 <;> cases a1 <;> cases a2 <;> cases a3 <;> cases a4 <;> rfl
  · cases b3 <;> cases b4 <;> cases b9 <;> cases a2 <;> cases a3 <;> cases a4 <;> rfl
  · simp only [h1, h2, h3, h4, h5, h6, h7, decide_false, al, Bool.or_false]
theorem Gk (k : Nat) (hk : MM < k) (m : aV) : jF k m = some ((nX m, ()), ()) := by
  obtain ⟨c, f, t, pr, lo, hi, n, u⟩ := m
  unfold jF ju ga jt fZ eV js nX z3
  simp only [Dt k hk, oc, P0, Il k hk, anyS, ai, Ju]
  generalize gB f = b1
  generalize gB t = b2
  generalize iT f = b3
  generalize iT t = b4
  generalize mD f t = b5
  generalize xZ lo hi = b6
  generalize gq n 0 63 = b8
  have e7 : gq pr (-1) 255 = (decide (-1 ≤ pr) && decide (pr ≤ 255)) := rfl
  have e9 : gq n 1 4 = (decide (1 ≤ n) && decide (n ≤ 4)) := rfl
  rw [e7, e9]
  generalize decide (-1 ≤ pr) = c1
  generalize decide (pr ≤ 255) = c2
  generalize decide (1 ≤ n) = c3
  generalize decide (n ≤ 4) = c4
  generalize decide (n = 0) = a1
  generalize decide (pr = 0) = a2
  generalize decide (lo = 0) = a3
  generalize decide (hi = 0) = a4
  rcases kinds c with rfl | rfl | rfl | rfl | rfl | rfl | rfl | ⟨h1, h2, h3, h4, h5, h6, h7, h8 | h8⟩
  · cases b1 <;> cases b2 <;> cases c1 <;> cases c2 <;> cases b6 <;> cases a1 <;> rfl
  · cases b5 <;> cases a1 <;> cases a2 <;> cases a3 <;> cases a4 <;> rfl
  · cases b5 <;> cases a1 <;> cases a2 <;> cases a3 <;> cases a4 <;> rfl
  · cases b3 <;> cases b4 <;> cases a1 <;> cases a2 <;> cases a3 <;> cases a4 <;> rfl
  · cases b3 <;> cases b4 <;> cases b8 <;> cases a2 <;> cases a3 <;> cases a4 <;> rfl
  · cases b3 <;> cases b4 <;> cases a1 <;> cases a2 <;> cases a3 <;> cases a4 <;> rfl
  · cases b3 <;> cases b4 <;> cases c3 <;> cases c4 <;> cases a2 <;> cases a3 <;> cases a4 <;> rfl
  · simp only [h1, h2, h3, h4, h5, h6, h7, h8.1, h8.2, decide_false, aI, al, ag, Bool.or_false, bT, bI]
  · simp only [h1, h2, h3, h4, h5, h6, h7, h8.1, h8.2, decide_false, aI, al, ag, Bool.or_false, bT, bI]
def Sz (l : List aV) : Bool := decide ((l.length : Int) ≤ 8) && !l.any (fun m => !nX m)
theorem Vk (k : Nat) (hk : MM < k) (l : List aV) : Sr k l = some ((Sz l, ()), ()) := by
  have hM : MM = 1048576 := rfl
  unfold Sr Sz
  by_cases h8 : (l.length : Int) ≤ 8
  case neg => rw [aK (ao h8), ao h8]; rfl
  rw [aw (ae h8), ae h8]
  have run := ow (step := RQ k) (st := fun i => ((), l, (), (l.length : Int), (i : Int), ())) (n := l.length) (hit := fun i => bif !nX (l.getD i vJ) then some (Sum.inl ((), (i : Int), ())) else none) (fin := Sum.inr ((), ())) (fun i hi rec => by
      unfold RQ Su
      rw [aw (by simp; omega), aw (by simp; omega), aw (by simp; omega)]
      simp only [Int.toNat_natCast, Jl k hk, ai]
      rw [bL (by omega)]
      cases nX (l.getD i vJ) <;> rfl) (fun rec => by
      unfold RQ
      rw [aK (by simp)]) l.length 0 k (by omega) (by omega)
  unfold RT RU
  rw [show iter (RQ k) k ((), l, (), (((List.length l) : Nat) : Int), (0 : Int), ()) = _ from run]
  rcases SN (x := l) (z := vJ) (p := fun m => !nX m) (f := fun i => (Sum.inl ((), (i : Int), ()) : (Unit × (Int × Unit)) ⊕ (Unit × Unit))) (fin := Sum.inr ((), ())) with ⟨h1, j, _, h2⟩ | ⟨h1, h2⟩
  · rw [h2, h1]; simp
  · rw [h2, h1]; simp
theorem Vl (k : Nat) (hk : MM < k) (l : List aV) : Sp k l = some ((Sz l, ()), ()) := by
  have hM : MM = 1048576 := rfl
  unfold Sp Sz
  rw [Ju]
  by_cases h8 : (l.length : Int) ≤ 8
  case neg => rw [ao h8]; rfl
  rw [ae h8]
  have run := ow (step := RZ k) (st := fun i => ((), l, (i : Int), ())) (n := l.length) (hit := fun i => bif !nX (l.getD i vJ) then some (Sum.inl ((), false, ())) else none) (fin := Sum.inr ((), ())) (fun i hi rec => by
      unfold RZ
      rw [aw (by simp; omega), aw (by simp; omega), aw (by simp; omega)]
      simp only [Int.toNat_natCast, Gk k hk, ai]
      rw [bL (by omega)]
      cases nX (l.getD i vJ) <;> rfl) (fun rec => by
      unfold RZ
      rw [aK (by simp)]) l.length 0 k (by omega) (by omega)
  simp only [bI, al]
  rw [show iter (RZ k) k ((), l, (0 : Int), ()) = _ from run]
  rcases SN (x := l) (z := vJ) (p := fun m => !nX m) (f := fun i => (Sum.inl ((), false, ()) : (Unit × (Bool × Unit)) ⊕ (Unit × Unit))) (fin := Sum.inr ((), ())) with ⟨h1, j, _, h2⟩ | ⟨h1, h2⟩
  · rw [h2, h1]; rfl
  · rw [h2, h1]; rfl
section
set_option maxHeartbeats 1100000
theorem bV (a : ar) : (au a).length ≤ 16 := by
  unfold au
  cases bO a <;> cases decide (a.1 = 4) <;> simp [aL]
def Iu (f : aR) : List Int :=
  (((((((([(69 + (((fO f).length : Nat) : Int) / 4) % 256, (4 * f.1 + f.2.1) % 256] : List Int) ++ putB (20 + (((fO f).length : Nat) : Int) + (((fB f).length : Nat) : Int)) 2) ++ putB f.2.2.1 2) ++ putB (8192 * f.2.2.2.1 + f.2.2.2.2.1) 2) ++ [f.2.2.2.2.2.1 % 256, f.2.2.2.2.2.2.1 % 256]) ++ putB 0 2) ++ au f.2.2.2.2.2.2.2.1) ++ au f.2.2.2.2.2.2.2.2.1) ++ fO f
theorem hJ {f : aR} (h : dN f = true) : (0 ≤ f.1 ∧ f.1 ≤ 63) ∧ (0 ≤ f.2.1 ∧ f.2.1 ≤ 3) ∧ (0 ≤ f.2.2.1 ∧ f.2.2.1 ≤ 65535) ∧ (0 ≤ f.2.2.2.1 ∧ f.2.2.2.1 ≤ 7) ∧ (0 ≤ f.2.2.2.2.1 ∧ f.2.2.2.2.1 ≤ 8191) ∧ (0 ≤ f.2.2.2.2.2.1 ∧ f.2.2.2.2.2.1 ≤ 255) ∧ (0 ≤ f.2.2.2.2.2.2.1 ∧ f.2.2.2.2.2.2.1 ≤ 255) ∧ ((fO f).length ≤ 40 ∧ (fB f).length ≤ 1500) := by
  unfold dN at h
  simp only [aA, fV, bF] at h
  obtain ⟨h1, h2, h3, h4, h5, h6, h7, _, _, h8, _, h9⟩ := h
  exact ⟨h1, h2, h3, h4, h5, h6, h7, by show f.2.2.2.2.2.2.2.2.2.1.length ≤ 40; omega, by show f.2.2.2.2.2.2.2.2.2.2.1.length ≤ 1500; omega⟩
theorem Rf (k : Nat) (hk : MM < k) (f : aR) (hf : dN f = true) : fc k f 0 = some ((Iu f, ()), ()) := by
  obtain ⟨h1, h2, h3, h4, h5, h6, h7, h8, h9⟩ := hJ hf
  have h8' : f.2.2.2.2.2.2.2.2.2.1.length ≤ 40 := h8
  have h9' : f.2.2.2.2.2.2.2.2.2.2.1.length ≤ 1500 := h9
  unfold fc gE
  simp only [ai, DQ f (by omega) (by omega), j9 k hk, nM k hk]
  have a1 := bV f.2.2.2.2.2.2.2.1
  have a2 := bV f.2.2.2.2.2.2.2.2.1
  rw [kD k hk _ (by simp) (by simp only [List.flatten_cons, List.flatten_nil, aT, List.length_cons, List.length_nil, aL]; omega)]
  simp only [ai]
  have w1 : Wr .i64 (20 + (f.2.2.2.2.2.2.2.2.2.1.length : Int)) = 20 + (f.2.2.2.2.2.2.2.2.2.1.length : Int) := bL (by omega)
  have w2 : Int.tdiv (20 + (f.2.2.2.2.2.2.2.2.2.1.length : Int)) 4 = 5 + (f.2.2.2.2.2.2.2.2.2.1.length : Int) / 4 := by rw [Int.tdiv_eq_ediv_of_nonneg (by omega)]; omega
  have w3 : Wr .i64 (5 + (f.2.2.2.2.2.2.2.2.2.1.length : Int) / 4) = 5 + (f.2.2.2.2.2.2.2.2.2.1.length : Int) / 4 := bL (by omega)
  have w4 : Wr .i64 (64 + (5 + (f.2.2.2.2.2.2.2.2.2.1.length : Int) / 4)) = 69 + (f.2.2.2.2.2.2.2.2.2.1.length : Int) / 4 := by rw [bL (by omega)]; omega
  have w5 : Wr .i64 (Wr .i64 (4 * f.1) + f.2.1) = 4 * f.1 + f.2.1 := by rw [bL (n := 4 * f.1) (by omega), bL (by omega)]
  have w6 : Wr .i64 (Wr .i64 (8192 * f.2.2.2.1) + f.2.2.2.2.1) = 8192 * f.2.2.2.1 + f.2.2.2.2.1 := by rw [bL (n := 8192 * f.2.2.2.1) (by omega), bL (by omega)]
  rw [w1, w2, w3, w4, w5, w6, lF, lF, lF, lF]
  unfold Iu
  simp only [List.flatten_cons, List.flatten_nil, List.append_nil, List.append_assoc]
theorem Rg (f : aR) (hf : dN f = true) : gu f 0 = some ((Iu f, ()), ()) := by
  obtain ⟨h1, h2, h3, h4, h5, h6, h7, h8, h9⟩ := hJ hf
  have h8' : f.2.2.2.2.2.2.2.2.2.1.length ≤ 40 := h8
  have h9' : f.2.2.2.2.2.2.2.2.2.2.1.length ≤ 1500 := h9
  have a1 := bV f.2.2.2.2.2.2.2.1
  have a2 := bV f.2.2.2.2.2.2.2.2.1
  unfold gu
  simp only [ai, jk, kC, aL, aT, List.length_cons, List.length_nil]
  have w0 : Wr .i64 (Wr .i64 (20 + (f.2.2.2.2.2.2.2.2.2.1.length : Int)) + (f.2.2.2.2.2.2.2.2.2.2.1.length : Int)) = 20 + (f.2.2.2.2.2.2.2.2.2.1.length : Int) + (f.2.2.2.2.2.2.2.2.2.2.1.length : Int) := by rw [bL (n := 20 + _) (by omega), bL (by omega)]
  have w2 : Int.tdiv ((f.2.2.2.2.2.2.2.2.2.1.length : Int)) 4 = (f.2.2.2.2.2.2.2.2.2.1.length : Int) / 4 := Int.tdiv_eq_ediv_of_nonneg (by omega)
  have w3 : Wr .i64 ((f.2.2.2.2.2.2.2.2.2.1.length : Int) / 4) = (f.2.2.2.2.2.2.2.2.2.1.length : Int) / 4 := bL (by omega)
  have w4 : Wr .i64 (69 + ((f.2.2.2.2.2.2.2.2.2.1.length : Int) / 4)) = 69 + (f.2.2.2.2.2.2.2.2.2.1.length : Int) / 4 := by rw [bL (by omega)]
  have w5 : Wr .i64 (Wr .i64 (4 * f.1) + f.2.1) = 4 * f.1 + f.2.1 := by rw [bL (n := 4 * f.1) (by omega), bL (by omega)]
  have w6 : Wr .i64 (Wr .i64 (8192 * f.2.2.2.1) + f.2.2.2.2.1) = 8192 * f.2.2.2.1 + f.2.2.2.2.1 := by rw [bL (n := 8192 * f.2.2.2.1) (by omega), bL (by omega)]
  rw [w0, w2, w3, w4, w5, w6, lF, lF, lF, lF]
  repeat (refine (aw (ae (by omega))).trans ?_)
  rfl
theorem pR {f : aR} (hf : dN f = true) (ho : az (fO f)) : az (Iu f) := by
  intro b hb
  unfold Iu at hb
  simp only [List.mem_append, List.mem_cons, List.not_mem_nil, or_false] at hb
  rcases hb with ((((((((h | h) | h) | h) | h) | (h | h)) | h) | h) | h) | h
  · subst h; omega
  · subst h; omega
  · exact aC _ _ b h
  · exact aC _ _ b h
  · exact aC _ _ b h
  · subst h; omega
  · subst h; omega
  · exact aC _ _ b h
  · exact de _ b h
  · exact de _ b h
  · exact ho b h
def lS (f : aR) : Int := bif dN f then vO (Iu f) else -1
theorem M5 (k : Nat) (hk : MM < k) (f : aR) (h1 : (fO f).length ≤ 1100000) (h2 : (fB f).length ≤ 1100000) (ho : az (fO f)) : ku k f = some ((lS f, ()), ()) := by
  unfold ku lS
  rw [zm f h1 h2, ai, bn]
  cases h : dN f
  · rfl
  · simp only [ag, Rf k hk f h, ai, MZ k hk _ (pR h ho)]
theorem Iv (k : Nat) (hk : MM < k) (f : aR) (h1 : (fO f).length ≤ 1100000) (h2 : (fB f).length ≤ 1100000) (ho : az (fO f)) : il k f = some ((lS f, ()), ()) := by
  unfold il lS
  rw [vF f h1 h2, ai, bn]
  cases h : dN f
  · rfl
  · simp only [ag, Rg f h, ai, M0 k hk _ (pR h ho)]
def jB (f : aR) : Bool := dN f && (!decide (f.2.2.2.2.1 = 0) || decide (Int.tmod f.2.2.2.1 2 = 1))
theorem Jv (f : aR) (h1 : (fO f).length ≤ 1100000) (h2 : (fB f).length ≤ 1100000) : ji f = some ((jB f, ()), ()) := by
  unfold ji jB
  rw [zm f h1 h2, ai]
  cases dN f <;> cases decide (f.2.2.2.2.1 = 0) <;> rfl
theorem xR (f : aR) (h1 : (fO f).length ≤ 1100000) (h2 : (fB f).length ≤ 1100000) : fX f = some ((jB f, ()), ()) := by
  unfold fX jB
  rw [vF f h1 h2, ai]
  cases dN f <;> cases decide (f.2.2.2.2.1 = 0) <;> rfl
end
section
set_option maxHeartbeats 1100000
theorem DZ {d : List Int} {t i m : Nat} (h : i + m ≤ t) : ((d.take t).drop i).take m = (d.drop i).take m := by
  rw [List.drop_take, List.take_take, Nat.min_eq_left (by omega)]
def D0 (d : List Int) (hl tot : Nat) : aR :=
  (d.getD 1 0 / 4, d.getD 1 0 % 4, df ((d.drop 4).take 2), df ((d.drop 6).take 2) / 8192, df ((d.drop 6).take 2) % 8192, d.getD 8 0, d.getD 9 0, (addrOf ((d.drop 12).take 4)).1, (addrOf ((d.drop 16).take 4)).1, (d.drop 20).take (hl - 20), (d.drop hl).take (tot - hl), ())
def b0 (d : List Int) : Int := d.getD 0 0
def nN (d : List Int) : Nat := (4 * (b0 d % 16)).toNat
def iJ (d : List Int) : Nat := (df ((d.drop 2).take 2)).toNat
def lB (d : List Int) : aR × List Int × Int :=
  bif decide (1600 < d.length) then (ra, [], 1) else bif decide (d.length < 20) then (ra, [], 2) else
  bif decide (b0 d / 16 = 4) then
    (bif decide (nN d < 20) || decide (d.length < nN d) then (ra, [], 4) else
    bif decide (iJ d < nN d) || (decide (1500 < iJ d) || decide (d.length < iJ d)) then (ra, [], 5) else
    bif decide (df ((d.drop 10).take 2) = lS (D0 d (nN d) (iJ d))) then (D0 d (nN d) (iJ d), d.drop (iJ d), 0) else (ra, [], 6))
  else (ra, [], 3)
end
section
set_option maxHeartbeats 1100000
theorem D5 (d : List Int) (hd : d.length ≤ 100000) (hl tot : Nat) : (fO (D0 d hl tot)).length ≤ 1100000 ∧ (fB (D0 d hl tot)).length ≤ 1100000 := by
  constructor
  · show ((d.drop 20).take (hl - 20)).length ≤ 1100000
    rw [List.length_take, List.length_drop]; omega
  · show ((d.drop hl).take (tot - hl)).length ≤ 1100000
    rw [List.length_take, List.length_drop]; omega
theorem AK {d : List Int} (hb : az d) (hl tot : Nat) : az (fO (D0 d hl tot)) := ey hb 20 (hl - 20)
theorem Gs (k : Nat) (hk : MM < k) (d : List Int) (hb : az d) : jI k d = some (((lB d).1, (lB d).2.1, (lB d).2.2, ()), ()) := by
  unfold jI ir jv lB
  by_cases h1 : 1600 < d.length
  · rw [aw (ae (by omega)), aw (ae h1)]
  rw [aK (ao (by omega)), aK (ao h1)]
  by_cases h2 : d.length < 20
  · rw [aw (ae (by omega)), aw (ae h2)]
  rw [aK (ao (by omega)), aK (ao h2)]
  have r0 : 0 ≤ d.getD 0 0 ∧ d.getD 0 0 ≤ 255 := hb _ (cb d 0 0 (by omega))
  have c0 : decide ((0 : Int) < (d.length : Int)) = true := ae (by omega)
  have c0' : decide ((0 : Nat) < d.length) = true := ae (by omega)
  have c1 : decide ((1 : Int) < (d.length : Int)) = true := ae (by omega)
  have c1' : decide ((1 : Nat) < d.length) = true := ae (by omega)
  have c8 : decide ((8 : Int) < (d.length : Int)) = true := ae (by omega)
  have c8' : decide ((8 : Nat) < d.length) = true := ae (by omega)
  have c9 : decide ((9 : Int) < (d.length : Int)) = true := ae (by omega)
  have c9' : decide ((9 : Nat) < d.length) = true := ae (by omega)
  have Rh : decide ((16 : Int) ≤ (d.length : Int)) = true := ae (by omega)
  have Ri : decide ((20 : Int) ≤ (d.length : Int)) = true := ae (by omega)
  have cll : decide ((d.length : Int) ≤ (d.length : Int)) = true := ae (Int.le_refl _)
  have e16 : Wr .u8 (Int.tdiv (d.getD 0 0) 16) = b0 d / 16 := by
    rw [Int.tdiv_eq_ediv_of_nonneg r0.1, lF]; unfold b0; omega
  have ehl : Wr .i64 (4 * Wr .i64 (Int.tmod (d.getD 0 0) 16)) = ((nN d : Nat) : Int) := by
    rw [Int.tmod_eq_emod_of_nonneg r0.1, bL (n := d.getD 0 0 % 16) (by omega), bL (by omega)]
    unfold nN b0; omega
  have r2 := iU hb 2
  have etot : df ((d.drop 2).take 2) = ((iJ d : Nat) : Int) := by unfold iJ; omega
  have f2 : aN d (2:Int) = _ := iH hb (by omega) 2 (by omega)
  have f4 : aN d (4:Int) = _ := iH hb (by omega) 4 (by omega)
  have f6 : aN d (6:Int) = _ := iH hb (by omega) 6 (by omega)
  have f10 : aN d (10:Int) = _ := iH hb (by omega) 10 (by omega)
  simp only [c0, c0', ag, e16, ehl, f2, ai, etot, bn]
  by_cases h3 : b0 d / 16 = 4
  case neg => rw [ao h3]; rfl
  rw [ae h3]
  simp only [ag]
  by_cases h4 : nN d < 20
  · rw [ae (show ((nN d : Nat) : Int) < 20 by omega), ae h4]; rfl
  rw [ao (show ¬ ((nN d : Nat) : Int) < 20 by omega), ao h4]
  by_cases h5 : d.length < nN d
  · rw [ae (show (d.length : Int) < ((nN d : Nat) : Int) by omega), ae h5]; rfl
  rw [ao (show ¬ (d.length : Int) < ((nN d : Nat) : Int) by omega), ao h5]
  by_cases h6 : iJ d < nN d
  · rw [ae (show ((iJ d : Nat) : Int) < ((nN d : Nat) : Int) by omega), ae h6]; rfl
  rw [ao (show ¬ ((iJ d : Nat) : Int) < ((nN d : Nat) : Int) by omega), ao h6]
  by_cases h7 : 1500 < iJ d
  · rw [ae (show (1500 : Int) < ((iJ d : Nat) : Int) by omega), ae h7]; rfl
  rw [ao (show ¬ (1500 : Int) < ((iJ d : Nat) : Int) by omega), ao h7]
  by_cases h8 : d.length < iJ d
  · rw [ae (show (d.length : Int) < ((iJ d : Nat) : Int) by omega), ae h8]; rfl
  rw [ao (show ¬ (d.length : Int) < ((iJ d : Nat) : Int) by omega), ao h8]
  have ct0 : decide ((0 : Int) ≤ ((iJ d : Nat) : Int)) = true := ae (by omega)
  have ctl : decide (((iJ d : Nat) : Int) ≤ (d.length : Int)) = true := ae (by omega)
  have ch20 : decide ((20 : Int) ≤ ((nN d : Nat) : Int)) = true := ae (by omega)
  have ch0 : decide ((0 : Int) ≤ ((nN d : Nat) : Int)) = true := ae (by omega)
  have chl : decide (((nN d : Nat) : Int) ≤ (d.length : Int)) = true := ae (by omega)
  have cht : decide (((nN d : Nat) : Int) ≤ ((iJ d : Nat) : Int)) = true := ae (by omega)
  obtain ⟨l1, l2⟩ := D5 d (by omega) (nN d) (iJ d)
  have r1 := hb _ (cb d 0 1 (by omega))
  have r8 := hb _ (cb d 0 8 (by omega))
  have r9 := hb _ (cb d 0 9 (by omega))
  have r6 := iU hb 6
  have q1 : Wr .i64 (Int.tdiv (Wr .i64 (d.getD 1 0)) 4) = d.getD 1 0 / 4 := by rw [bL (n := d.getD 1 0) (by omega), Int.tdiv_eq_ediv_of_nonneg (by omega), bL (by omega)]
  have q2 : Int.tmod (Wr .i64 (d.getD 1 0)) 4 = d.getD 1 0 % 4 := by rw [bL (n := d.getD 1 0) (by omega), Int.tmod_eq_emod_of_nonneg (by omega)]
  have q3 : Wr .i64 (Int.tdiv (df ((d.drop 6).take 2)) 8192) = df ((d.drop 6).take 2) / 8192 := by rw [Int.tdiv_eq_ediv_of_nonneg r6.1, bL (by omega)]
  have q4 : Int.tmod (df ((d.drop 6).take 2)) 8192 = df ((d.drop 6).take 2) % 8192 := Int.tmod_eq_emod_of_nonneg r6.1
  have m1 : decide ((0 + ((d.drop 20).take (nN d - 20)).length) * 1 ≤ 1099511627776) = true := ae (by rw [List.length_take, List.length_drop]; omega)
  have m2 : decide ((0 + ((d.drop (nN d)).take (iJ d - nN d)).length) * 1 ≤ 1099511627776) = true := ae (by rw [List.length_take, List.length_drop]; omega)
  have m3 : decide ((0 + (d.drop (iJ d)).length) * 1 ≤ 1099511627776) = true := ae (by rw [List.length_drop]; omega)
  have hs : il k (D0 d (nN d) (iJ d)) = _ := Iv k hk _ l1 l2 (AK hb _ _)
  unfold D0 at hs
  simp only [c1, c1', c8, c8', c9, c9', Rh, Ri, ct0, ctl, ch20, ch0, chl, cht, cll, m1, m2, m3, Bool.and_self, ag, al, Int.toNat_natCast, f4, f6, f10, ai, q1, q2, q3, q4, kT, nH k hk _ (ey hb 12 4), nH k hk _ (ey hb 16 4),
    bL (n := d.getD 8 0) ⟨by omega, by omega⟩, bL (n := d.getD 9 0) ⟨by omega, by omega⟩, hs, Bool.or_self]
  unfold D0
  cases decide (df ((d.drop 10).take 2) = lS _) <;> rfl
end
section
set_option maxHeartbeats 2000000
def vh (n : Int) : Bool := decide (n = 0) || (decide (n = 43) || decide (n = 60))
theorem M6 (n : Int) : gX n = some ((vh n, ()), ()) := by
  unfold gX vh
  cases decide (n = 0) <;> cases decide (n = 43) <;> rfl
theorem Jw (n : Int) : fJ n = some ((vh n, ()), ()) := by
  unfold fJ vh
  cases decide (n = 0) <;> cases decide (n = 43) <;> rfl
def xT (l : List Int) : Nat := 8 * ((l.getD 1 0).toNat + 1)
def od (kind : Int) (l : List Int) (out : List aB) : Bool :=
  decide (out.length = 3) || ((decide (kind = 0) && decide (0 < out.length)) || (decide (l.length < 2) || (decide (7 < l.getD 1 0) || decide (l.length < xT l))))
def Iw (kind : Int) (l : List Int) (out : List aB) : List aB := out ++ [(kind, (l.drop 2).take (xT l - 2), ())]
def extsP : Nat → Int → List Int → List aB → Option (List aB × Int × List Int)
  | 0, _, _, _ => none
  | n + 1, kind, l, out => bif vh kind then (bif od kind l out then none else extsP n (l.getD 0 0) (l.drop (xT l)) (Iw kind l out)) else some (out, kind, l)
end
section
set_option maxHeartbeats 2000000
def gK (d : List Int) : Nat := 40 + (df ((d.drop 4).take 2)).toNat
abbrev sW (d : List Int) : Int := df ((d.drop 0).take 4)
def Qv (d : List Int) (o : List aB) (kd : Int) (r : List Int) : bc :=
  (sW d / 1048576 % 256, sW d % 1048576, d.getD 7 0, kd, (addrOf ((d.drop 8).take 16)).1, (addrOf ((d.drop 24).take 16)).1, o, r, ())
def sixRd (d : List Int) : bc × List Int × Int :=
  bif decide (1600 < d.length) then (kQ, [], 1) else bif decide (d.length < 40) then (kQ, [], 2) else
  bif decide (b0 d / 16 = 6) then
    (bif decide (1500 < gK d) || decide (d.length < gK d) then (kQ, [], 4) else
      match extsP 4 (d.getD 6 0) ((d.drop 40).take (gK d - 40)) [] with
      | some (o, kd, r) => (Qv d o kd r, d.drop (gK d), 0)
      | none => (kQ, [], 5))
  else (kQ, [], 3)
theorem uG : ∀ (n : Nat) (kind : Int) (l : List Int) (out : List aB) {o : List aB} {kd : Int} {r : List Int}, extsP n kind l out = some (o, kd, r) → ∃ j, r = l.drop j
  | 0, kind, l, out, o, kd, r, h => by simp [extsP] at h
  | n + 1, kind, l, out, o, kd, r, h => by
    unfold extsP at h
    cases h1 : vh kind
    · rw [h1] at h
      simp only [al, af, aG] at h
      exact ⟨0, h.2.2.symm⟩
    · rw [h1] at h
      simp only [ag] at h
      cases h2 : od kind l out
      · rw [h2] at h
        simp only [al] at h
        obtain ⟨j, hj⟩ := uG n _ _ _ h
        exact ⟨xT l + j, by rw [hj, List.drop_drop]⟩
      · rw [h2] at h; simp at h
end
section
set_option maxHeartbeats 4000000
theorem vR {d : List Int} {a t i : Nat} (h : i < t) (hd : a + i < d.length) : ((d.drop a).take t).getD i 0 = d.getD (a + i) 0 := by
  rw [dT d 0 (a + i) hd, dT _ 0 i (by rw [List.length_take, List.length_drop]; omega), List.getElem_take, List.getElem_drop]
abbrev S8 (c1 c2 c3 c4 : Int) (a1 a2 : ar) (o : List aB) (r : List Int × Unit) : bc := (c1, c2, c3, c4, a1, a2, o, r)
theorem D6 (rec) (d : List Int) (E at_ : Nat) (hE : at_ ≤ E ∧ E ≤ d.length) (hd : d.length ≤ 2000) (hb : az d) (kind c1 c2 c3 c4 : Int) (a1 a2 : ar) (out : List aB) (r : List Int × Unit) (ho : out.length ≤ 3) :
    dJ rec ((), d, kQ, (E : Int), S8 c1 c2 c3 c4 a1 a2 out r, kind, (at_ : Int), ()) =
      bif vh kind then (bif od kind ((d.drop at_).take (E - at_)) out then some (Sum.inl ((), kQ, [], 5, ())) else
        rec ((), d, kQ, (E : Int), S8 c1 c2 c3 c4 a1 a2 (Iw kind ((d.drop at_).take (E - at_)) out) r, ((d.drop at_).take (E - at_)).getD 0 0, ((at_ + xT ((d.drop at_).take (E - at_)) : Nat) : Int), ()))
      else some (Sum.inr ((), d, kQ, (E : Int), S8 c1 c2 c3 c4 a1 a2 out r, kind, (at_ : Int), ())) := by
  obtain ⟨hE1, hE2⟩ := hE
  have hll : ((d.drop at_).take (E - at_)).length = E - at_ := by rw [List.length_take, List.length_drop]; omega
  unfold dJ
  simp only [Jw, ai]
  cases vh kind
  · rfl
  simp only [ag, bn]
  unfold od
  by_cases h3 : out.length = 3
  · rw [ae (show (out.length : Int) = 3 by omega), ae h3]; rfl
  rw [ao (show ¬ (out.length : Int) = 3 by omega), ao h3]
  simp only [al, Bool.false_or]
  obtain ⟨l, hl⟩ : ∃ l, l = (d.drop at_).take (E - at_) := ⟨_, rfl⟩
  rw [← hl] at hll ⊢
  have w1 : Wr .i64 ((at_ : Int) + 1) = ((at_ + 1 : Nat) : Int) := bL (by omega)
  have w2 : Wr .i64 ((at_ : Int) + 2) = ((at_ + 2 : Nat) : Int) := bL (by omega)
  simp only [w1, w2, Int.toNat_natCast]
  have core : l.length < 2 ∨ (2 ≤ l.length ∧ d.getD (at_ + 1) 0 = l.getD 1 0 ∧ d.getD at_ 0 = l.getD 0 0 ∧ (0 ≤ l.getD 1 0 ∧ l.getD 1 0 ≤ 255) ∧ (0 ≤ l.getD 0 0 ∧ l.getD 0 0 ≤ 255)) := by
    rcases Nat.lt_or_ge l.length 2 with h | h
    · exact .inl h
    · have g1 : l.getD 1 0 = d.getD (at_ + 1) 0 := by rw [hl]; exact vR (by omega) (by omega)
      have g0 : l.getD 0 0 = d.getD at_ 0 := by rw [hl]; exact vR (i := 0) (by omega) (by omega)
      exact .inr ⟨h, g1.symm, g0.symm, by rw [g1]; exact hb _ (cb d 0 _ (by omega)), by rw [g0]; exact hb _ (cb d 0 _ (by omega))⟩
  rcases core with h2 | ⟨h2, g1, g0, r1, r0⟩
  · have e1 : decide ((E : Int) < ((at_ + 2 : Nat) : Int)) = true := ae (by omega)
    have e2 : decide (l.length < 2) = true := ae h2
    simp only [e1, e2, ag, Bool.true_or, Bool.or_true]
    cases decide (kind = 0) <;> cases decide ((0 : Int) < (out.length : Int)) <;> rfl
  · have e1 : decide ((E : Int) < ((at_ + 2 : Nat) : Int)) = false := ao (by omega)
    have e2 : decide (l.length < 2) = false := ao (by omega)
    have e3 : decide ((0 : Int) ≤ ((at_ + 1 : Nat) : Int)) = true := ae (by omega)
    have e4 : decide (((at_ + 1 : Nat) : Int) < (d.length : Int)) = true := ae (by omega)
    have e5 : decide (at_ + 1 < d.length) = true := ae (by omega)
    have eT : Wr .i64 (Wr .i64 ((at_ : Int) + Wr .i64 (8 * Wr .i64 (l.getD 1 0))) + 8) = ((at_ + xT l : Nat) : Int) := by
      rw [bL (n := l.getD 1 0) (by omega), bL (n := 8 * l.getD 1 0) (by omega), bL (n := (at_ : Int) + 8 * l.getD 1 0) (by omega), bL (by omega)]
      unfold xT; omega
    have w0 : Wr .i64 (l.getD 0 0) = l.getD 0 0 := bL (by omega)
    simp only [e1, e2, e3, e4, e5, g1, g0, eT, w0, Bool.and_self, ag, al, Bool.false_or]
    have fin : ∀ X : Option ((Unit × (bc × (List Int × (Int × Unit)))) ⊕ (Unit × (List Int × (bc × (Int × (bc × (Int × (Int × Unit)))))))), X = (bif (decide ((7:Int) < (l.getD 1 0))) then some (Sum.inl ((), kQ, ([] : List Int), (5:Int), ()))
 else
 bif (decide ((E : Int) < ((at_ + xT l : Nat) : Int))) then
 some (Sum.inl ((), kQ, ([] : List Int), (5:Int), ()))
 else
 bif (((decide ((0:Int) ≤ ((at_ + 2 : Nat) : Int))) && (decide (((at_ + 2 : Nat) : Int) ≤ ((at_ + xT l : Nat) : Int)))) && (decide (((at_ + xT l : Nat) : Int) ≤ (d.length : Int)))) then
 bif (decide ((((0:Nat) + (List.length (List.take ((at_ + xT l) - (at_ + 2)) (List.drop (at_ + 2) d)))) * 1) ≤ (1099511627776:Nat))) then
 bif (decide ((((List.length out) + (1:Nat)) * 32) ≤ (1099511627776:Nat))) then
 bif ((decide ((0:Int) ≤ (at_ : Int))) && (decide ((at_ : Int) < (d.length : Int)))) then
 bif (decide (at_ < (List.length d))) then
 rec ((), d, kQ, (E : Int), (c1, c2, c3, c4, a1, a2, (out ++ ([(kind, (List.take ((at_ + xT l) - (at_ + 2)) (List.drop (at_ + 2) d)), ())] : List aB)), r), l.getD 0 0, ((at_ + xT l : Nat) : Int), ())
 else none
 else none
 else none
 else none
 else none) → X = bif (decide (7 < l.getD 1 0) || decide (l.length < xT l)) then some (Sum.inl ((), kQ, [], 5, ())) else rec ((), d, kQ, (E : Int), S8 c1 c2 c3 c4 a1 a2 (Iw kind l out) r, l.getD 0 0, ((at_ + xT l : Nat) : Int), ()) := by
      rintro X rfl
      by_cases h7 : 7 < l.getD 1 0
      · rw [ae h7]; rfl
      rw [ao h7]
      by_cases hT : l.length < xT l
      · rw [ae (show (E : Int) < ((at_ + xT l : Nat) : Int) by omega), ae hT]; rfl
      rw [ao (show ¬ (E : Int) < ((at_ + xT l : Nat) : Int) by omega), ao hT]
      have x8 : 8 ≤ xT l := by unfold xT; omega
      have d1 : decide ((0 : Int) ≤ ((at_ + 2 : Nat) : Int)) = true := ae (by omega)
      have d2 : decide (((at_ + 2 : Nat) : Int) ≤ ((at_ + xT l : Nat) : Int)) = true := ae (by omega)
      have d3 : decide (((at_ + xT l : Nat) : Int) ≤ (d.length : Int)) = true := ae (by omega)
      have d4 : decide ((0 + (List.take ((at_ + xT l) - (at_ + 2)) (List.drop (at_ + 2) d)).length) * 1 ≤ 1099511627776) = true := ae (by rw [List.length_take, List.length_drop]; omega)
      have d5 : decide ((out.length + 1) * 32 ≤ 1099511627776) = true := ae (by omega)
      have d6 : decide ((0 : Int) ≤ (at_ : Int)) = true := ae (by omega)
      have d7 : decide ((at_ : Int) < (d.length : Int)) = true := ae (by omega)
      have d8 : decide (at_ < d.length) = true := ae (by omega)
      have eB : List.take ((at_ + xT l) - (at_ + 2)) (List.drop (at_ + 2) d) = (l.drop 2).take (xT l - 2) := by
        rw [hl, DZ (by rw [← hl]; omega), List.drop_drop, ← hl, show at_ + xT l - (at_ + 2) = xT l - 2 by omega]
      simp only [d1, d2, d3, d4, d5, d6, d7, d8, Bool.and_self, ag, al, Bool.or_self]
      rw [eB]
      rfl
    by_cases hz : kind = 0
    · rw [ae hz]
      simp only [ag, Bool.true_and]
      by_cases h0 : 0 < out.length
      · rw [ae (show (0 : Int) < (out.length : Int) by omega), ae h0]; rfl
      rw [ao (show ¬ (0 : Int) < (out.length : Int) by omega), ao h0]
      exact fin _ rfl
    · rw [ao hz]
      exact fin _ rfl
end
section
set_option maxHeartbeats 4000000
theorem exts_runS (d : List Int) (E : Nat) (hE : E ≤ d.length) (hd : d.length ≤ 2000) (hb : az d) (c1 c2 c3 c4 : Int) (a1 a2 : ar) (r : List Int × Unit) : ∀ (m k : Nat) (kind : Int) (at_ : Nat) (out : List aB), out.length + m = 3 → m < k → at_ ≤ E →
    iter dJ k ((), d, kQ, (E : Int), S8 c1 c2 c3 c4 a1 a2 out r, kind, (at_ : Int), ()) = some (match extsP (m + 1) kind ((d.drop at_).take (E - at_)) out with
      | some (o, kd, rr) => Sum.inr ((), d, kQ, (E : Int), S8 c1 c2 c3 c4 a1 a2 o r, kd, ((E - rr.length : Nat) : Int), ()) | none => Sum.inl ((), kQ, [], 5, ()))
  | m, 0, kind, at_, out, h1, h2, h3 => by omega
  | m, k + 1, kind, at_, out, h1, h2, h3 => by
    have hll : ((d.drop at_).take (E - at_)).length = E - at_ := by rw [List.length_take, List.length_drop]; omega
    rw [bd, D6 _ d E at_ ⟨h3, hE⟩ hd hb kind c1 c2 c3 c4 a1 a2 out r (by omega)]
    unfold extsP
    cases vh kind
    · simp only [al]
      rw [hll, show E - (E - at_) = at_ by omega]
    simp only [ag]
    cases hs : od kind ((d.drop at_).take (E - at_)) out
    · simp only [al]
      have hs' := hs
      unfold od at hs'
      simp only [Bool.or_eq_false_iff, decide_eq_false_iff_not] at hs'
      obtain ⟨q1, _, q2, q3, q4⟩ := hs'
      cases m with
      | zero => omega
      | succ m =>
        rw [exts_runS d E hE hd hb c1 c2 c3 c4 a1 a2 r m k _ _ _ (by unfold Iw; simp; omega) (by omega) (by omega)]
        have e : (d.drop (at_ + xT ((d.drop at_).take (E - at_)))).take (E - (at_ + xT ((d.drop at_).take (E - at_)))) = ((d.drop at_).take (E - at_)).drop (xT ((d.drop at_).take (E - at_))) := by
          rw [List.drop_take, List.drop_drop]
          congr 1
          omega
        rw [e]
    · rfl
theorem Gt {d : List Int} {E : Nat} (hE : 40 ≤ E ∧ E ≤ d.length) {n : Nat} {kind : Int} {out o : List aB} {kd : Int} {rr : List Int} (h : extsP n kind ((d.drop 40).take (E - 40)) out = some (o, kd, rr)) : rr.length ≤ E ∧ (d.drop (E - rr.length)).take rr.length = rr := by
  obtain ⟨j, hj⟩ := uG n kind _ out h
  rw [List.drop_take, List.drop_drop] at hj
  have hl : rr.length = min (E - 40 - j) (d.length - (40 + j)) := by rw [hj, List.length_take, List.length_drop]
  rcases Nat.lt_or_ge (E - 40) j with h1 | h1
  · have : rr = [] := by rw [hj, show E - 40 - j = 0 by omega]; rfl
    subst this; simp
  · have h2 : rr.length = E - 40 - j := by omega
    refine ⟨by omega, ?_⟩
    rw [h2, show E - (E - 40 - j) = 40 + j by omega, hj]
theorem Jx (k : Nat) (hk : MM < k) (d : List Int) (hb : az d) : ko k d = some (((sixRd d).1, (sixRd d).2.1, (sixRd d).2.2, ()), ()) := by
  have hM : MM = 1048576 := rfl
  unfold ko sixRd
  by_cases h1 : 1600 < d.length
  · rw [aw (ae (by omega)), aw (ae h1)]
  rw [aK (ao (by omega)), aK (ao h1)]
  by_cases h2 : d.length < 40
  · rw [aw (ae (by omega)), aw (ae h2)]
  rw [aK (ao (by omega)), aK (ao h2)]
  have r0 : 0 ≤ d.getD 0 0 ∧ d.getD 0 0 ≤ 255 := hb _ (cb d 0 0 (by omega))
  have r6 : 0 ≤ d.getD 6 0 ∧ d.getD 6 0 ≤ 255 := hb _ (cb d 0 6 (by omega))
  have r7 : 0 ≤ d.getD 7 0 ∧ d.getD 7 0 ≤ 255 := hb _ (cb d 0 7 (by omega))
  have c0 : decide ((0 : Int) < (d.length : Int)) = true := ae (by omega)
  have c0' : decide ((0 : Nat) < d.length) = true := ae (by omega)
  have c6b : decide ((6 : Int) < (d.length : Int)) = true := ae (by omega)
  have c6' : decide ((6 : Nat) < d.length) = true := ae (by omega)
  have c7 : decide ((7 : Int) < (d.length : Int)) = true := ae (by omega)
  have c7' : decide ((7 : Nat) < d.length) = true := ae (by omega)
  have Rj : decide ((24 : Int) ≤ (d.length : Int)) = true := ae (by omega)
  have c40 : decide ((40 : Int) ≤ (d.length : Int)) = true := ae (by omega)
  have cll : decide ((d.length : Int) ≤ (d.length : Int)) = true := ae (Int.le_refl _)
  have e16 : Wr .u8 (Int.tdiv (d.getD 0 0) 16) = b0 d / 16 := by
    rw [Int.tdiv_eq_ediv_of_nonneg r0.1, lF]; unfold b0; omega
  have r4 := iU hb 4
  have eE : Wr .i64 (40 + df ((d.drop 4).take 2)) = ((gK d : Nat) : Int) := by rw [bL (by omega)]; unfold gK; omega
  have f4 : aN d (4:Int) = _ := iH hb (by omega) 4 (by omega)
  simp only [c0, c0', ag, e16, f4, ai, eE, bn]
  by_cases h3 : b0 d / 16 = 6
  case neg => rw [ao h3]; rfl
  rw [ae h3]
  simp only [ag]
  by_cases h4 : 1500 < gK d
  · rw [ae (show (1500 : Int) < ((gK d : Nat) : Int) by omega), ae h4]; rfl
  rw [ao (show ¬ (1500 : Int) < ((gK d : Nat) : Int) by omega), ao h4]
  by_cases h5 : d.length < gK d
  · rw [ae (show (d.length : Int) < ((gK d : Nat) : Int) by omega), ae h5]; rfl
  rw [ao (show ¬ (d.length : Int) < ((gK d : Nat) : Int) by omega), ao h5]
  have ge40 : 40 ≤ gK d := by unfold gK; omega
  have q2 : decide (((gK d : Nat) : Int) ≤ (d.length : Int)) = true := ae (by omega)
  have q3 : decide ((0 : Int) ≤ ((gK d : Nat) : Int)) = true := ae (by omega)
  have e6 : Wr .i64 (d.getD 6 0) = d.getD 6 0 := bL (by omega)
  have e7 : Wr .i64 (d.getD 7 0) = d.getD 7 0 := bL (by omega)
  have f0 : cH k d (0:Int) = _ := nc k hk d hb 0 (by omega) (by omega)
  have w : 0 ≤ sW d ∧ sW d ≤ 4294967295 := jP hb 0
  have a1 : Int.tmod (Wr .i64 (Int.tdiv (df ((d.drop 0).take 4)) 1048576)) 256 = sW d / 1048576 % 256 := by
    show Int.tmod (Wr .i64 (Int.tdiv (sW d) 1048576)) 256 = sW d / 1048576 % 256
    rw [Int.tdiv_eq_ediv_of_nonneg w.1, bL (by omega), Int.tmod_eq_emod_of_nonneg (by omega)]
  have a2 : Int.tmod (df ((d.drop 0).take 4)) 1048576 = sW d % 1048576 := Int.tmod_eq_emod_of_nonneg w.1
  have run := exts_runS d (gK d) (by omega) (by omega) hb (sW d / 1048576 % 256) (sW d % 1048576) (d.getD 7 0) 0 (addrOf ((d.drop 8).take 16)).1 (addrOf ((d.drop 24).take 16)).1 ([], ()) 3 k (d.getD 6 0) 40 [] rfl (by omega) ge40
  simp only [c6b, c6', c7, c7', Rj, c40, e6, e7, f0, ai, a1, a2, nH k hk _ (ey hb 8 16), nH k hk _ (ey hb 24 16), ag, al, Bool.or_self]
  rw [show iter dJ k ((), d, kQ, ((gK d : Nat) : Int), (sW d / 1048576 % 256, sW d % 1048576, d.getD 7 0, (0:Int), (addrOf ((d.drop 8).take 16)).1, (addrOf ((d.drop 24).take 16)).1, ([] : List aB), ([] : List Int), ()), d.getD 6 0, (40:Int), ()) = _ from run]
  cases hE : extsP (3 + 1) (d.getD 6 0) ((d.drop 40).take (gK d - 40)) [] with
  | none =>
    have hE' : extsP 4 (d.getD 6 0) ((d.drop 40).take (gK d - 40)) [] = none := hE
    rfl
  | some p =>
    obtain ⟨o, kd, r⟩ := p
    have hE' : extsP 4 (d.getD 6 0) ((d.drop 40).take (gK d - 40)) [] = some (o, kd, r) := hE
    obtain ⟨s1, s2⟩ := Gt ⟨ge40, by omega⟩ hE
    have g1 : decide ((0 : Int) ≤ ((gK d - r.length : Nat) : Int)) = true := ae (by omega)
    have g2 : decide (((gK d - r.length : Nat) : Int) ≤ ((gK d : Nat) : Int)) = true := ae (by omega)
    have e8 : List.take (gK d - (gK d - r.length)) (List.drop (gK d - r.length) d) = r := by rw [show gK d - (gK d - r.length) = r.length by omega]; exact s2
    have m1 : decide ((0 + r.length) * 1 ≤ 1099511627776) = true := ae (by omega)
    have m2 : decide ((0 + (d.drop (gK d)).length) * 1 ≤ 1099511627776) = true := ae (by rw [List.length_drop]; omega)
    simp only [ai, Sum.elim_inr, g1, g2, q2, q3, cll, Int.toNat_natCast, e8, m1, m2, kT, Bool.and_self, ag]
    rfl
end
end Go.Tw
