/- Plain facts on the mirrors of the functions are proved here. -/
import Derived.Test.YtmjacadeccoclaaPm1
set_option linter.all false
namespace Go.Tw
open Go Go.RowKit

def small (e : D_Job) : Prop := (0 ≤ e.2.1.1 ∧ e.2.1.1 ≤ 1000) ∧ (0 ≤ e.2.1.2.1 ∧ e.2.1.2.1 ≤ 1000) ∧ (0 ≤ e.2.1.2.2.1 ∧ e.2.1.2.2.1 ≤ 1000)
theorem imax_two (a b : Int) : a ≤ imax a b ∧ b ≤ imax a b ∧ (imax a b = a ∨ imax a b = b) := by unfold imax; split <;> omega
theorem through_step (L : List D_Job) (hL : L.length ≤ 1000) (i : Nat) (hi : i < L.length) (hs : small (L.getD i z_Job)) (out : List Int) (ho : out.length ≤ 1000) (ta tb tc : Int)
    (h1 : 0 ≤ ta ∧ ta ≤ 10000000) (h2 : 0 ≤ tb ∧ tb ≤ 10000000) (h3 : 0 ≤ tc ∧ tc ≤ 10000000) (rec) :
    spec_l21Through_s5 rec ((), L, out, ta, tb, tc, (i : Int), ()) =
      rec ((), L, out ++ [(if 0 < (L.getD i z_Job).2.1.2.1 then imax tc ((if 0 < (L.getD i z_Job).2.1.1 then imax tb (ta + (L.getD i z_Job).2.1.1) else tb) + (L.getD i z_Job).2.1.2.1) else tc) + (L.getD i z_Job).2.1.2.2.1],
        ta + (L.getD i z_Job).2.1.1, (if 0 < (L.getD i z_Job).2.1.1 then imax tb (ta + (L.getD i z_Job).2.1.1) else tb) + (L.getD i z_Job).2.1.2.1,
        (if 0 < (L.getD i z_Job).2.1.2.1 then imax tc ((if 0 < (L.getD i z_Job).2.1.1 then imax tb (ta + (L.getD i z_Job).2.1.1) else tb) + (L.getD i z_Job).2.1.2.1) else tc) + (L.getD i z_Job).2.1.2.2.1, ((i + 1 : Nat) : Int), ()) := by
  have b2 : decide ((i : Int).toNat < L.length) = true := by simp; omega
  have b3 : decide ((i : Int) < ((L.length : Nat) : Int)) = true := by simp; omega
  have b5 : decide ((0 : Int) ≤ (i : Int)) = true := by simp
  have b4 : decide ((out.length + 1) * 8 ≤ 1099511627776) = true := by simp; omega
  have wi : IntKind.wrap .i64 ((i : Int) + 1) = ((i + 1 : Nat) : Int) := w64 (by omega)
  unfold spec_l21Through_s5
  simp only [b2, b3, b4, b5, Bool.and_self, cond_true]
  have hg : L.getD (i : Int).toNat z_Job = L.getD i z_Job := rfl
  rw [hg]
  generalize L.getD i z_Job = e at hs
  obtain ⟨s1, s2, s3⟩ := hs
  have w1 : IntKind.wrap .i64 (ta + e.2.1.1) = ta + e.2.1.1 := w64 (by omega)
  have m1 := imax_two tb (ta + e.2.1.1)
  have w2 : IntKind.wrap .i64 (imax tb (ta + e.2.1.1) + e.2.1.2.1) = imax tb (ta + e.2.1.1) + e.2.1.2.1 := w64 (by omega)
  have w3 : IntKind.wrap .i64 (tb + e.2.1.2.1) = tb + e.2.1.2.1 := w64 (by omega)
  have m2 := imax_two tc (imax tb (ta + e.2.1.1) + e.2.1.2.1)
  have m3 := imax_two tc (tb + e.2.1.2.1)
  have w4 : IntKind.wrap .i64 (imax tc (imax tb (ta + e.2.1.1) + e.2.1.2.1) + e.2.1.2.2.1) = imax tc (imax tb (ta + e.2.1.1) + e.2.1.2.1) + e.2.1.2.2.1 := w64 (by omega)
  have w5 : IntKind.wrap .i64 (imax tc (tb + e.2.1.2.1) + e.2.1.2.2.1) = imax tc (tb + e.2.1.2.1) + e.2.1.2.2.1 := w64 (by omega)
  have w6 : IntKind.wrap .i64 (tc + e.2.1.2.2.1) = tc + e.2.1.2.2.1 := w64 (by omega)
  by_cases p1 : 0 < e.2.1.1 <;> by_cases p2 : 0 < e.2.1.2.1 <;> simp only [p1, p2, decide_true, decide_false, cond_true, cond_false, ↓reduceIte, w1, w2, w3, w4, w5, w6, wi]
theorem through_run (L : List D_Job) (hL : L.length ≤ 1000) (hs : ∀ e ∈ L, small e) : ∀ (m i kk : Nat) (out : List Int) (ta tb tc : Int), i + m = L.length → m < kk → out.length = i →
    (0 ≤ ta ∧ ta ≤ 3000 * i) → (0 ≤ tb ∧ tb ≤ 3000 * i) → (0 ≤ tc ∧ tc ≤ 3000 * i) → (ta ≤ 1000 * i) → (tb ≤ 2000 * i) →
    iter spec_l21Through_s5 kk ((), L, out, ta, tb, tc, (i : Int), ()) = some ((), out ++ thr (L.drop i) ta tb tc, ())
  | 0, i, kk + 1, out, ta, tb, tc, hi, hk, ho, h1, h2, h3, h4, h5 => by
    have : i = L.length := by omega
    subst this
    rw [iter_succ]
    unfold spec_l21Through_s5
    rw [bif_f (by simp)]
    simp [thr]
  | m + 1, i, kk + 1, out, ta, tb, tc, hi, hk, ho, h1, h2, h3, h4, h5 => by
    have hse := hs _ (getD_mem L z_Job i (by omega))
    rw [iter_succ, through_step L hL i (by omega) hse out (by omega) ta tb tc (by omega) (by omega) (by omega)]
    rw [drop_at L z_Job i (by omega)]
    generalize L.getD i z_Job = e at hse
    obtain ⟨s1, s2, s3⟩ := hse
    have m1 := imax_two tb (ta + e.2.1.1)
    simp only [thr]
    generalize hb : (if 0 < e.2.1.1 then imax tb (ta + e.2.1.1) else tb) + e.2.1.2.1 = tb1
    have g1 : 0 ≤ tb1 ∧ tb1 ≤ 2000 * ((i + 1 : Nat) : Int) := by
      subst hb
      split <;> omega
    have m2 := imax_two tc tb1
    generalize hc : (if 0 < e.2.1.2.1 then imax tc tb1 else tc) + e.2.1.2.2.1 = tc1
    have g2 : 0 ≤ tc1 ∧ tc1 ≤ 3000 * ((i + 1 : Nat) : Int) := by
      subst hc
      split <;> omega
    rw [through_run L hL hs m (i + 1) kk (out ++ [tc1]) (ta + e.2.1.1) tb1 tc1 (by omega) (by omega) (by simp; omega) (by omega) (by omega) g2 (by omega) g1.2]
    simp
end Go.Tw
