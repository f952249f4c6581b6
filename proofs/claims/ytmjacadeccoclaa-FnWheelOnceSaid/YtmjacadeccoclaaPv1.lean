/- Plain facts on the mirrors of the functions are proved here. -/
import Derived.Test.YtmjacadeccoclaaMd
import Derived.Test.YtmjacadeccoclaaPw9
import Derived.Test.YtmjacadeccoclaaPf0
set_option linter.all false
namespace Go.Tw
open Go Go.RowKit

/-! The cursor that hands out numbers. -/
structure CP (b : Int) (c : D_l01Cur) : Prop where
  bytes : ∀ v ∈ c.1, 0 ≤ v ∧ v ≤ 255
  len : c.1.length ≤ 1048576
  at0 : 0 ≤ c.2.1
  at1 : c.2.1 ≤ b
  s0 : 0 ≤ c.2.2.1
  s1 : c.2.2.1 ≤ 100000
/-- A draw: it answers, it moves at most so far, its answer is so. -/
def Dr {α : Type} (f : D_l01Cur → Option ((α × Unit) × (D_l01Cur × Unit))) (n : Int) (Q : α → Prop) : Prop :=
  ∀ b c, CP b c → b + n ≤ 1099511627776 → ∃ x c', f c = some ((x, ()), (c', ())) ∧ CP (b + n) c' ∧ Q x
theorem tmod_rng {x n : Int} (hx : 0 ≤ x) (hn : 0 < n) : 0 ≤ Int.tmod x n ∧ Int.tmod x n < n := by
  rw [Int.tmod_eq_emod_of_nonneg hx]
  exact ⟨Int.emod_nonneg _ (by omega), Int.emod_lt_of_pos _ hn⟩
theorem tdiv_rng {x : Int} (hx : 0 ≤ x) : 0 ≤ Int.tdiv x 7 ∧ Int.tdiv x 7 ≤ x := by
  rw [Int.tdiv_eq_ediv_of_nonneg hx]
  omega
theorem pick_dr (n : Int) (hn : 2 ≤ n) (hn2 : n ≤ 9223372036854775807) : Dr (fun c => spec_l01Cur_pick c n) 1 (fun x => 0 ≤ x ∧ x < n) := by
  intro b c h hb
  obtain ⟨code, at_, seed, u⟩ := c
  obtain ⟨h1, h2, h3, h4, h5, h6⟩ := h
  simp only at h1 h2 h3 h4 h5 h6
  have hwat : IntKind.wrap .i64 (at_ + 1) = at_ + 1 := w64 (by omega)
  have hws : Int.tmod (IntKind.wrap .i64 (IntKind.wrap .i64 (seed * 1103) + 12345)) 65521 = Int.tmod (seed * 1103 + 12345) 65521 := by
    rw [w64 (n := seed * 1103) (by omega), w64 (n := seed * 1103 + 12345) (by omega)]
  have hs := tmod_rng (x := seed * 1103 + 12345) (n := 65521) (by omega) (by omega)
  unfold spec_l01Cur_pick
  simp only
  rw [bif_f (by simp; omega)]
  by_cases hat : at_ < ((code.length : Nat) : Int)
  · rw [bif_t (by simp; omega), bif_t (by simp; omega), bif_t (by simp; omega), bif_t (by simp; omega)]
    have hv := h1 _ (getD_mem code 0 at_.toNat (by omega))
    have hwv : IntKind.wrap .i64 (code.getD at_.toNat 0) = code.getD at_.toNat 0 := w64 (by omega)
    rw [hwv, hwat]
    exact ⟨_, _, rfl, ⟨h1, h2, by simp only; omega, by simp only; omega, h5, h6⟩, tmod_rng hv.1 (by omega)⟩
  · rw [bif_f (by simp; omega)]
    rw [hws, hwat]
    generalize hsd : Int.tmod (seed * 1103 + 12345) 65521 = sd at hs
    by_cases hl : 0 < code.length
    · have hm := tmod_rng (x := at_) (n := ((code.length : Nat) : Int)) h3 (by omega)
      have q1 : decide ((0 : Int) < ((code.length : Nat) : Int)) = true := decide_eq_true (by omega)
      have q2 : (!decide (((code.length : Nat) : Int) = 0)) = true := by rw [Bool.not_eq_true', decide_eq_false_iff_not]; omega
      have q3 : (decide ((0 : Int) ≤ Int.tmod at_ ((code.length : Nat) : Int)) && decide (Int.tmod at_ ((code.length : Nat) : Int) < ((code.length : Nat) : Int))) = true := by rw [Bool.and_eq_true, decide_eq_true_eq, decide_eq_true_eq]; exact hm
      have q4 : decide ((Int.tmod at_ ((code.length : Nat) : Int)).toNat < code.length) = true := decide_eq_true (by omega)
      have q5 : (!decide (n = 0)) = true := by rw [Bool.not_eq_true', decide_eq_false_iff_not]; omega
      rw [bif_t q1, bif_t q2, bif_t q3, bif_t q4, bif_t q5]
      have hv := h1 _ (getD_mem code 0 (Int.tmod at_ ((code.length : Nat) : Int)).toNat (by omega))
      generalize code.getD (Int.tmod at_ ((code.length : Nat) : Int)).toNat 0 = v at hv
      have hd := tdiv_rng (x := sd) hs.1
      rw [w64 (n := v) (by omega), w64 (n := Int.tdiv sd 7) (by omega), w64 (n := Int.tdiv sd 7 + v) (by omega)]
      exact ⟨_, _, rfl, ⟨h1, h2, by simp only [hwat]; omega, by simp only [hwat]; omega, by simp only; omega, by simp only; omega⟩, tmod_rng (by omega) (by omega)⟩
    · have q1 : decide ((0 : Int) < ((code.length : Nat) : Int)) = false := decide_eq_false (by omega)
      have q5 : (!decide (n = 0)) = true := by rw [Bool.not_eq_true', decide_eq_false_iff_not]; omega
      rw [bif_f q1, bif_t q5]
      exact ⟨_, _, rfl, ⟨h1, h2, by simp only [hwat]; omega, by simp only [hwat]; omega, by simp only; omega, by simp only; omega⟩, tmod_rng (by omega) (by omega)⟩
theorem pick_one (n : Int) (hn : n < 2) : Dr (fun c => spec_l01Cur_pick c n) 1 (fun x => x = 0) := by
  intro b c h hb
  refine ⟨0, c, ?_, ⟨h.bytes, h.len, h.at0, by have := h.at1; omega, h.s0, h.s1⟩, rfl⟩
  show spec_l01Cur_pick c n = _
  unfold spec_l01Cur_pick
  rw [bif_t (by simpa using hn)]
theorem CP.up {b b' : Int} {c : D_l01Cur} (h : CP b c) (hb : b ≤ b') : CP b' c := ⟨h.bytes, h.len, h.at0, by have := h.at1; omega, h.s0, h.s1⟩
abbrev BB : Int := 1099511627776
theorem pick_ok {b : Int} {c : D_l01Cur} (n : Int) (hn : 2 ≤ n ∧ n ≤ 1000000000) (h : CP b c) (hb : b + 1 ≤ BB) : ∃ x c', spec_l01Cur_pick c n = some ((x, ()), (c', ())) ∧ CP (b + 1) c' ∧ 0 ≤ x ∧ x < n := pick_dr n hn.1 (by omega) b c h hb
theorem once_ok {b : Int} {c : D_l01Cur} (n : Int) (hn : 2 ≤ n ∧ n ≤ 1000000000) (h : CP b c) (hb : b + 1 ≤ BB) : ∃ x c', spec_l01Cur_once c n = some ((x, ()), (c', ())) ∧ CP (b + 1) c' := by
  obtain ⟨x, c', e, h1, h2⟩ := pick_ok n hn h hb
  exact ⟨_, c', by unfold spec_l01Cur_once; rw [e]; rfl, h1⟩
theorem size_ok {b : Int} {c : D_l01Cur} (n : Int) (hn : 2 ≤ n ∧ n ≤ 1000000) (h : CP b c) (hb : b + 1 ≤ BB) : ∃ x c', spec_l01Cur_size c n = some ((x, ()), (c', ())) ∧ CP (b + 1) c' ∧ 0 ≤ x ∧ x ≤ n := by
  have hl := h.len
  have hd : 0 ≤ Int.tdiv ((c.1.length : Nat) : Int) 8 ∧ Int.tdiv ((c.1.length : Nat) : Int) 8 ≤ 1048576 := by
    rw [Int.tdiv_eq_ediv_of_nonneg (by omega)]; omega
  have hmin : 1 ≤ imin n (1 + Int.tdiv ((c.1.length : Nat) : Int) 8) ∧ imin n (1 + Int.tdiv ((c.1.length : Nat) : Int) 8) ≤ n := by unfold imin; split <;> omega
  have hw : IntKind.wrap .i64 (imin n (IntKind.wrap .i64 (1 + IntKind.wrap .i64 (Int.tdiv ((c.1.length : Nat) : Int) 8))) + 1) = imin n (1 + Int.tdiv ((c.1.length : Nat) : Int) 8) + 1 := by
    rw [w64 (n := Int.tdiv ((c.1.length : Nat) : Int) 8) (by omega), w64 (n := 1 + Int.tdiv ((c.1.length : Nat) : Int) 8) (by omega), w64 (by omega)]
  obtain ⟨x, c', e, h1, h2⟩ := pick_ok (imin n (1 + Int.tdiv ((c.1.length : Nat) : Int) 8) + 1) (by omega) h hb
  refine ⟨x, c', ?_, h1, by omega⟩
  unfold spec_l01Cur_size
  rw [hw, e]; rfl
theorem wide_ok {b : Int} {c : D_l01Cur} (n : Int) (hn : 1 ≤ n) (h : CP b c) (hb : b + 3 ≤ BB) : ∃ x c', spec_l01Cur_wide c n = some ((x, ()), (c', ())) ∧ CP (b + 3) c' ∧ 0 ≤ x ∧ x < n := by
  obtain ⟨x, c1, e1, h1, hx⟩ := pick_ok 256 (by omega) h (by omega)
  obtain ⟨y, c2, e2, h2, hy⟩ := pick_ok 256 (by omega) h1 (by omega)
  obtain ⟨z, c3, e3, h3, hz⟩ := pick_ok 256 (by omega) h2 (by omega)
  refine ⟨_, c3, ?_, h3.up (by omega), tmod_rng (x := 65536 * x + 256 * y + z) (n := n) (by omega) (by omega)⟩
  unfold spec_l01Cur_wide
  simp only [e1, e2, e3, Option.bind_some]
  rw [w64 (n := 65536 * x) (by omega), w64 (n := 256 * y) (by omega), w64 (n := 65536 * x + 256 * y) (by omega), w64 (n := 65536 * x + 256 * y + z) (by omega)]
  exact bif_t (by simp; omega)
theorem inRange {x : Int} (n : Nat) (N : Int) (hn : N = (n : Int)) (h : 0 ≤ x ∧ x < N) : (decide ((0 : Int) ≤ x) && decide (x < N)) = true ∧ decide (x.toNat < n) = true := by
  subst hn
  refine ⟨by simp [h], ?_⟩
  simp; omega
theorem raw_ok {b : Int} {c : D_l01Cur} (h : CP b c) (hb : b + 2 ≤ BB) : ∃ x c', spec_l01Cur_raw c = some ((x, ()), (c', ())) ∧ CP (b + 2) c' := by
  obtain ⟨x, c1, e1, h1, hx⟩ := pick_ok 8 (by omega) h (by omega)
  unfold spec_l01Cur_raw
  simp only [e1, Option.bind_some]
  cases decide (x = 0) with
  | true =>
    obtain ⟨y, c2, e2, h2, hy⟩ := pick_ok 256 (by omega) h1 (by omega)
    simp only [e2, Option.bind_some, cond_true]
    exact ⟨_, c2, rfl, h2.up (by omega)⟩
  | false =>
    simp only [cond_false]
    cases decide (x = 1) with
    | true =>
      obtain ⟨y, c2, e2, h2, hy⟩ := pick_ok 8 (by omega) h1 (by omega)
      simp only [e2, Option.bind_some, cond_true]
      obtain ⟨q1, q2⟩ := inRange 8 8 rfl hy
      rw [bif_t q1, bif_t q2]
      exact ⟨_, c2, rfl, h2.up (by omega)⟩
    | false =>
      obtain ⟨y, c2, e2, h2, hy⟩ := pick_ok 14 (by omega) h1 (by omega)
      simp only [e2, Option.bind_some, cond_false]
      exact ⟨_, c2, rfl, h2.up (by omega)⟩
end Go.Tw
