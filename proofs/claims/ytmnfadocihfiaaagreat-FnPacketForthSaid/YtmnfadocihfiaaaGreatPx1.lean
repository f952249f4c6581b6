/- Facts on mirrors. -/
import Derived.Test.YtmnfadocihfiaaaGreatMr
import Derived.Test.YtmnfadocihfiaaaGreatPn2
set_option linter.all false
namespace Go.Tw
open Go Go.RowKit
structure CP (b : Int) (c : D_l01Cur) : Prop where
  bytes : ∀ v ∈ c.1, 0 ≤ v ∧ v ≤ 255
  len : c.1.length ≤ 1048576
  at0 : 0 ≤ c.2.1
  at1 : c.2.1 ≤ b
  s0 : 0 ≤ c.2.2.1
  s1 : c.2.2.1 ≤ 100000
def Dr {α : Type} (f : D_l01Cur → Option ((α × Unit) × (D_l01Cur × Unit))) (n : Int) (Q : α → Prop) : Prop :=
  ∀ b c, CP b c → b + n ≤ 1099511627776 → ∃ x c', f c = some ((x, ()), (c', ())) ∧ CP (b + n) c' ∧ Q x
theorem tmod_rng {x n : Int} (hx : 0 ≤ x) (hn : 0 < n) : 0 ≤ Int.tmod x n ∧ Int.tmod x n < n := by
  rw [Int.tmod_eq_emod_of_nonneg hx]
  exact ⟨Int.emod_nonneg _ (by omega), Int.emod_lt_of_pos _ hn⟩
theorem tdiv_rng {x : Int} (hx : 0 ≤ x) : 0 ≤ Int.tdiv x 7 ∧ Int.tdiv x 7 ≤ x := by
  rw [Int.tdiv_eq_ediv_of_nonneg hx]
  omega
theorem pick_dr (n : Int) (hn : 2 ≤ n) (hn2 : n ≤ 9223372036854775807) : Dr (fun c => spec_l01Cur_pick c n) 1 (fun x => 0 ≤ x ∧ x < n) := by
  intro b c h hb
  obtain ⟨code, at_, seed, u⟩ := c
  obtain ⟨h1, h2, h3, h4, h5, h6⟩ := h
  simp only at h1 h2 h3 h4 h5 h6
  have hwat : IntKind.wrap .i64 (at_ + 1) = at_ + 1 := w64 (by omega)
  have hws : Int.tmod (IntKind.wrap .i64 (IntKind.wrap .i64 (seed * 1103) + 12345)) 65521 = Int.tmod (seed * 1103 + 12345) 65521 := by
    rw [w64 (n := seed * 1103) (by omega), w64 (n := seed * 1103 + 12345) (by omega)]
  have hs := tmod_rng (x := seed * 1103 + 12345) (n := 65521) (by omega) (by omega)
  unfold spec_l01Cur_pick
  simp only
  rw [bif_f (by simp; omega)]
  by_cases hat : at_ < ((code.length : Nat) : Int)
  · rw [bif_t (by simp; omega), bif_t (by simp; omega), bif_t (by simp; omega), bif_t (by simp; omega)]
    have hv := h1 _ (getD_mem code 0 at_.toNat (by omega))
    have hwv : IntKind.wrap .i64 (code.getD at_.toNat 0) = code.getD at_.toNat 0 := w64 (by omega)
    rw [hwv, hwat]
    exact ⟨_, _, rfl, ⟨h1, h2, by simp only; omega, by simp only; omega, h5, h6⟩, tmod_rng hv.1 (by omega)⟩
  · rw [bif_f (by simp; omega)]
    rw [hws, hwat]
    generalize hsd : Int.tmod (seed * 1103 + 12345) 65521 = sd at hs
    by_cases hl : 0 < code.length
    · have hm := tmod_rng (x := at_) (n := ((code.length : Nat) : Int)) h3 (by omega)
      have q1 : decide ((0 : Int) < ((code.length : Nat) : Int)) = true := decide_eq_true (by omega)
      have q2 : (!decide (((code.length : Nat) : Int) = 0)) = true := by rw [Bool.not_eq_true', decide_eq_false_iff_not]; omega
      have q3 : (decide ((0 : Int) ≤ Int.tmod at_ ((code.length : Nat) : Int)) && decide (Int.tmod at_ ((code.length : Nat) : Int) < ((code.length : Nat) : Int))) = true := by rw [Bool.and_eq_true, decide_eq_true_eq, decide_eq_true_eq]; exact hm
      have q4 : decide ((Int.tmod at_ ((code.length : Nat) : Int)).toNat < code.length) = true := decide_eq_true (by omega)
      have q5 : (!decide (n = 0)) = true := by rw [Bool.not_eq_true', decide_eq_false_iff_not]; omega
      rw [bif_t q1, bif_t q2, bif_t q3, bif_t q4, bif_t q5]
      have hv := h1 _ (getD_mem code 0 (Int.tmod at_ ((code.length : Nat) : Int)).toNat (by omega))
      generalize code.getD (Int.tmod at_ ((code.length : Nat) : Int)).toNat 0 = v at hv
      have hd := tdiv_rng (x := sd) hs.1
      rw [w64 (n := v) (by omega), w64 (n := Int.tdiv sd 7) (by omega), w64 (n := Int.tdiv sd 7 + v) (by omega)]
      exact ⟨_, _, rfl, ⟨h1, h2, by simp only [hwat]; omega, by simp only [hwat]; omega, by simp only; omega, by simp only; omega⟩, tmod_rng (by omega) (by omega)⟩
    · have q1 : decide ((0 : Int) < ((code.length : Nat) : Int)) = false := decide_eq_false (by omega)
      have q5 : (!decide (n = 0)) = true := by rw [Bool.not_eq_true', decide_eq_false_iff_not]; omega
      rw [bif_f q1, bif_t q5]
      exact ⟨_, _, rfl, ⟨h1, h2, by simp only [hwat]; omega, by simp only [hwat]; omega, by simp only; omega, by simp only; omega⟩, tmod_rng (by omega) (by omega)⟩
theorem pick_one (n : Int) (hn : n < 2) : Dr (fun c => spec_l01Cur_pick c n) 1 (fun x => x = 0) := by
  intro b c h hb
  refine ⟨0, c, ?_, ⟨h.bytes, h.len, h.at0, by have := h.at1; omega, h.s0, h.s1⟩, rfl⟩
  show spec_l01Cur_pick c n = _
  unfold spec_l01Cur_pick
  rw [bif_t (by simpa using hn)]
theorem CP.up {b b' : Int} {c : D_l01Cur} (h : CP b c) (hb : b ≤ b') : CP b' c := ⟨h.bytes, h.len, h.at0, by have := h.at1; omega, h.s0, h.s1⟩
abbrev BB : Int := 1099511627776
theorem pick_ok {b : Int} {c : D_l01Cur} (n : Int) (hn : 2 ≤ n ∧ n ≤ 1000000000) (h : CP b c) (hb : b + 1 ≤ BB) : ∃ x c', spec_l01Cur_pick c n = some ((x, ()), (c', ())) ∧ CP (b + 1) c' ∧ 0 ≤ x ∧ x < n := pick_dr n hn.1 (by omega) b c h hb
theorem once_ok {b : Int} {c : D_l01Cur} (n : Int) (hn : 2 ≤ n ∧ n ≤ 1000000000) (h : CP b c) (hb : b + 1 ≤ BB) : ∃ x c', spec_l01Cur_once c n = some ((x, ()), (c', ())) ∧ CP (b + 1) c' := by
  obtain ⟨x, c', e, h1, h2⟩ := pick_ok n hn h hb
  exact ⟨_, c', by unfold spec_l01Cur_once; rw [e]; rfl, h1⟩
theorem size_ok {b : Int} {c : D_l01Cur} (n : Int) (hn : 2 ≤ n ∧ n ≤ 1000000) (h : CP b c) (hb : b + 1 ≤ BB) : ∃ x c', spec_l01Cur_size c n = some ((x, ()), (c', ())) ∧ CP (b + 1) c' ∧ 0 ≤ x ∧ x ≤ n := by
  have hl := h.len
  have hd : 0 ≤ Int.tdiv ((c.1.length : Nat) : Int) 8 ∧ Int.tdiv ((c.1.length : Nat) : Int) 8 ≤ 1048576 := by
    rw [Int.tdiv_eq_ediv_of_nonneg (by omega)]; omega
  have hmin : 1 ≤ imin n (1 + Int.tdiv ((c.1.length : Nat) : Int) 8) ∧ imin n (1 + Int.tdiv ((c.1.length : Nat) : Int) 8) ≤ n := by unfold imin; split <;> omega
  have hw : IntKind.wrap .i64 (imin n (IntKind.wrap .i64 (1 + IntKind.wrap .i64 (Int.tdiv ((c.1.length : Nat) : Int) 8))) + 1) = imin n (1 + Int.tdiv ((c.1.length : Nat) : Int) 8) + 1 := by
    rw [w64 (n := Int.tdiv ((c.1.length : Nat) : Int) 8) (by omega), w64 (n := 1 + Int.tdiv ((c.1.length : Nat) : Int) 8) (by omega), w64 (by omega)]
  obtain ⟨x, c', e, h1, h2⟩ := pick_ok (imin n (1 + Int.tdiv ((c.1.length : Nat) : Int) 8) + 1) (by omega) h hb
  refine ⟨x, c', ?_, h1, by omega⟩
  unfold spec_l01Cur_size
  rw [hw, e]; rfl
theorem wide_ok {b : Int} {c : D_l01Cur} (n : Int) (hn : 1 ≤ n) (h : CP b c) (hb : b + 3 ≤ BB) : ∃ x c', spec_l01Cur_wide c n = some ((x, ()), (c', ())) ∧ CP (b + 3) c' ∧ 0 ≤ x ∧ x < n := by
  obtain ⟨x, c1, e1, h1, hx⟩ := pick_ok 256 (by omega) h (by omega)
  obtain ⟨y, c2, e2, h2, hy⟩ := pick_ok 256 (by omega) h1 (by omega)
  obtain ⟨z, c3, e3, h3, hz⟩ := pick_ok 256 (by omega) h2 (by omega)
  refine ⟨_, c3, ?_, h3.up (by omega), tmod_rng (x := 65536 * x + 256 * y + z) (n := n) (by omega) (by omega)⟩
  unfold spec_l01Cur_wide
  simp only [e1, e2, e3, Option.bind_some]
  rw [w64 (n := 65536 * x) (by omega), w64 (n := 256 * y) (by omega), w64 (n := 65536 * x + 256 * y) (by omega), w64 (n := 65536 * x + 256 * y + z) (by omega)]
  exact bif_t (by simp; omega)
theorem pickA_ok {b : Int} {c : D_l01Cur} (n : Int) (hn : 1 ≤ n ∧ n ≤ 1000000000) (h : CP b c) (hb : b + 1 ≤ BB) : ∃ x c', spec_l01Cur_pick c n = some ((x, ()), (c', ())) ∧ CP (b + 1) c' ∧ 0 ≤ x ∧ x < n := by
  by_cases h2 : 2 ≤ n
  · exact pick_ok n ⟨h2, hn.2⟩ h hb
  · obtain ⟨x, c', e, q1, q2⟩ := pick_one n (by omega) b c h hb
    exact ⟨x, c', e, q1, by omega, by omega⟩
def Tot {α : Type} (Q : α → Prop) (N : Int) (r : Option ((α × Unit) × (D_l01Cur × Unit))) : Prop := ∃ x c', r = some ((x, ()), (c', ())) ∧ CP N c' ∧ Q x
section
variable {α : Type} {Q : α → Prop} {N b : Int} {c : D_l01Cur} {k : Nat}
theorem tEnd {x : α} (h : CP b c) (hb : b ≤ N) (q : Q x) : Tot Q N (some ((x, ()), (c, ()))) := ⟨x, c, rfl, h.up hb, q⟩
theorem tIf {t : Bool} {X Y : Option ((α × Unit) × (D_l01Cur × Unit))} (hx : Tot Q N X) (hy : Tot Q N Y) : Tot Q N (bif t then X else Y) := by cases t; exact hy; exact hx
theorem tT {t : Bool} {X Y : Option ((α × Unit) × (D_l01Cur × Unit))} (ht : t = true) (hx : Tot Q N X) : Tot Q N (bif t then X else Y) := by rw [ht]; exact hx
theorem tAny {n : Int} {K : (Int × Unit) × (D_l01Cur × Unit) → Option ((α × Unit) × (D_l01Cur × Unit))} (h : CP b c) (hn : 1 ≤ n ∧ n ≤ 1000000000) (hb : b + 1 ≤ BB) (H : ∀ x c', 0 ≤ x → x < n → CP (b + 1) c' → Tot Q N (K ((x, ()), (c', ())))) : Tot Q N ((spec_l01Cur_pick c n).bind K) := by
  obtain ⟨x, c', e, h1, h2, h3⟩ := pickA_ok n hn h hb
  rw [e]; exact H x c' h2 h3 h1
theorem tWide {n : Int} {K : (Int × Unit) × (D_l01Cur × Unit) → Option ((α × Unit) × (D_l01Cur × Unit))} (h : CP b c) (hn : 1 ≤ n) (hb : b + 3 ≤ BB) (H : ∀ x c', 0 ≤ x → x < n → CP (b + 3) c' → Tot Q N (K ((x, ()), (c', ())))) : Tot Q N ((spec_l01Cur_wide c n).bind K) := by
  obtain ⟨x, c', e, h1, h2, h3⟩ := wide_ok n hn h hb
  rw [e]; exact H x c' h2 h3 h1
theorem tOnce {n : Int} {K : (Bool × Unit) × (D_l01Cur × Unit) → Option ((α × Unit) × (D_l01Cur × Unit))} (h : CP b c) (hn : 2 ≤ n ∧ n ≤ 1000000000) (hb : b + 1 ≤ BB) (H : ∀ x c', CP (b + 1) c' → Tot Q N (K ((x, ()), (c', ())))) : Tot Q N ((spec_l01Cur_once c n).bind K) := by
  obtain ⟨x, c', e, h1⟩ := once_ok n hn h hb
  rw [e]; exact H x c' h1
theorem tCall {β : Type} {R : β → Prop} {M : Int} {f : Option ((β × Unit) × (D_l01Cur × Unit))} {K : (β × Unit) × (D_l01Cur × Unit) → Option ((α × Unit) × (D_l01Cur × Unit))} (hf : Tot R M f) (H : ∀ x c', R x → CP M c' → Tot Q N (K ((x, ()), (c', ())))) : Tot Q N (f.bind K) := by
  obtain ⟨x, c', e, h1, h2⟩ := hf
  rw [e]; exact H x c' h2 h1
def byN (n : Nat) (l : List Int) : Prop := (∀ b ∈ l, 0 ≤ b ∧ b ≤ 255) ∧ l.length ≤ n
theorem bytes_run : ∀ (m : Nat) (l : List Int) (c : D_l01Cur) (b : Int) (k : Nat), m < k → CP b c → b + (m : Int) ≤ BB → (∀ x ∈ l, 0 ≤ x ∧ x ≤ 255) → l.length + m ≤ 1000000 →
    ∃ l' c', iter spec_l01Cur_bytes_s3 k ((c, ()), (), l, (m : Int), ()) = some ((c', ()), l', ()) ∧ CP (b + (m : Int)) c' ∧ (∀ x ∈ l', 0 ≤ x ∧ x ≤ 255) ∧ l'.length = l.length + m
  | m, l, c, b, 0, h, _, _, _, _ => by omega
  | 0, l, c, b, k + 1, h, hc, hb, hl, hn => by
    rw [iter_succ]
    refine ⟨l, c, ?_, hc.up (by omega), hl, rfl⟩
    unfold spec_l01Cur_bytes_s3
    exact bif_f (decide_eq_false (by dsimp only; omega))
  | m + 1, l, c, b, k + 1, h, hc, hb, hl, hn => by
    obtain ⟨x, c1, e1, h1, h2⟩ := pick_ok 256 (by omega) hc (by omega)
    rw [iter_succ]
    have st : ∀ rec, spec_l01Cur_bytes_s3 rec ((c, ()), (), l, ((m + 1 : Nat) : Int), ()) = rec ((c1, ()), (), l ++ [x % 256], (m : Int), ()) := fun rec => by
      unfold spec_l01Cur_bytes_s3
      have w : IntKind.wrap .i64 (((m + 1 : Nat) : Int) - 1) = (m : Int) := (w64 (n := ((m + 1 : Nat) : Int) - 1) (by omega)).trans (by omega)
      refine (bif_t (decide_eq_true (by dsimp only; omega))).trans ?_
      show (spec_l01Cur_pick c 256).bind _ = _
      rw [e1]
      simp only [Option.bind_some]
      rw [bif_t (decide_eq_true (by omega)), w, wu8]
    rw [st]
    obtain ⟨l', c', e, q1, q2, q3⟩ := bytes_run m (l ++ [x % 256]) c1 (b + 1) k (by omega) h1 (by omega) (fun y hy => by
      rcases List.mem_append.1 hy with hy | hy
      · exact hl y hy
      · rw [List.mem_singleton.1 hy]; omega) (by rw [List.length_append]; show l.length + 1 + m ≤ 1000000; omega)
    refine ⟨l', c', e, q1.up (by omega), q2, ?_⟩
    rw [q3, List.length_append]; show l.length + 1 + m = _; omega
theorem tBytes (hk : MM < k) {n : Int} (n' : Nat) (hn' : n = (n' : Int)) (h : CP b c) (hn : 2 ≤ n ∧ n ≤ 1000) (hb : b + 2000 ≤ BB) : Tot (byN n') (b + 1001) (spec_l01Cur_bytes k c n) := by
  have hM : MM = 1048576 := rfl
  obtain ⟨x, c1, e1, h1, h2, h3⟩ := size_ok n (by omega) h (by omega)
  obtain ⟨m, rfl⟩ := Int.eq_ofNat_of_zero_le h2
  obtain ⟨l', c', e, q1, q2, q3⟩ := bytes_run m [] c1 (b + 1) k (by omega) h1 (by omega) (fun y hy => (List.not_mem_nil hy).elim) (by simp; omega)
  refine ⟨l', c', ?_, q1.up (by omega), q2, by rw [q3]; simp; omega⟩
  unfold spec_l01Cur_bytes
  rw [e1]
  simp only [Option.bind_some]
  rw [e]
  rfl
end
end Go.Tw
